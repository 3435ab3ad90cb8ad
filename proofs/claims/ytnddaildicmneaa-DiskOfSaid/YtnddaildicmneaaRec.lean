/-
  Rows of records in memory: a slice of them that reads, one that is owned. For any type of record: how many cells it has, and which.
-/
import Derived.Test.YtnddaildicmneaaRows
import Derived.Test.YtnddaildicmneaaBase
import Derived.Test.YtnddaildicmneaaRegion
import Derived.Lib.Walk
import Derived.WalkSpells
import Derived.IntWalk
import Derived.Maps.AppendAt
import Derived.Laws.AppendOwnNone
import Derived.Deep.AppendLies
namespace Go.Proofs.Ytnddaildicmneaa
open Go.RowKit

structure RecT (α : Type) where
  t : TypeId
  n : Nat
  cs : α → List Value
  len : ∀ a, (cs a).length = n
  one : ∀ a, ∀ u ∈ cs a, u.oneCell' = true
  pos : 0 < n

namespace RecT
variable {α : Type} (R : RecT α)

def cells (l : List α) : List Value := l.flatMap R.cs
theorem cells_len : ∀ l : List α, (R.cells l).length = l.length * R.n
  | [] => by simp [cells]
  | j :: l => by
    have := cells_len l
    unfold cells at this ⊢
    rw [List.flatMap_cons, List.length_append, this, R.len, List.length_cons, Nat.succ_mul]; omega
theorem cells_app (l m : List α) : R.cells (l ++ m) = R.cells l ++ R.cells m := by simp [cells]
theorem cells_get : ∀ (l : List α) (i : Nat) (t : α), l[i]? = some t → ∀ k, k < R.n → (R.cells l)[i * R.n + k]? = (R.cs t)[k]?
  | [], i, t, h => by simp at h
  | j :: l, 0, t, h => fun k hk => by
    simp at h; subst h
    unfold cells
    rw [List.flatMap_cons, List.getElem?_append_left (by rw [R.len]; omega), Nat.zero_mul, Nat.zero_add]
  | j :: l, i + 1, t, h => fun k hk => by
    have := cells_get l i t (by simpa using h) k hk
    unfold cells at this ⊢
    rw [List.flatMap_cons, List.getElem?_append_right (by rw [R.len, Nat.succ_mul]; omega), ← this]
    congr 1; rw [R.len, Nat.succ_mul]; omega
theorem cells_one (l : List α) : ∀ u ∈ R.cells l, u.oneCell' = true := by
  intro u hu
  obtain ⟨j, _, hj⟩ := List.mem_flatMap.1 hu
  exact R.one j u hj
theorem cells_split (l : List α) (k : Nat) : R.cells l = R.cells (l.take k) ++ R.cells (l.drop k) := by rw [← cells_app, List.take_append_drop]
theorem cells_take (l : List α) (k : Nat) : (R.cells l).take (k * R.n) = R.cells (l.take k) := by
  by_cases h : k ≤ l.length
  · have hl : (R.cells (l.take k)).length = k * R.n := by rw [cells_len, List.length_take, Nat.min_eq_left h]
    conv => lhs; rw [R.cells_split l k, ← hl]
    exact List.take_left
  · rw [List.take_of_length_le (by rw [cells_len]; exact Nat.mul_le_mul_right _ (by omega)), List.take_of_length_le (by omega)]
theorem cells_drop (l : List α) (k : Nat) : (R.cells l).drop (k * R.n) = R.cells (l.drop k) := by
  by_cases h : k ≤ l.length
  · have hl : (R.cells (l.take k)).length = k * R.n := by rw [cells_len, List.length_take, Nat.min_eq_left h]
    conv => lhs; rw [R.cells_split l k, ← hl]
    exact List.drop_left
  · rw [List.drop_of_length_le (by rw [cells_len]; exact Nat.mul_le_mul_right _ (by omega)), List.drop_of_length_le (by omega)]; rfl

/-- the cells of a record at the place `a` of the block `b` -/
def At (w : World) (b a : Nat) (x : α) : Prop := ∀ k, k < R.n → w.cell? ⟨b, a + k, none⟩ = (R.cs x)[k]?
/-- The slice `v` reads as the records `l`; `g`: the block that is read, if any. -/
def Rd (w : World) (v : Value) (g : Option Nat) (l : List α) : Prop :=
  ∃ A cap, v = .slice A l.length cap ∧ l.length ≤ cap ∧ cap ≤ maxLen ∧ Under w.heap.size g ∧ (0 < l.length → ∃ b off, A = some ⟨b, off, none⟩ ∧ g = some b ∧ ∀ i t, l[i]? = some t → R.At w b (off + i * R.n) t) ∧ (A = none → cap = 0)
/-- ... and is owned: from the beginning of a block of its own on -/
def Row (w : World) (v : Value) (l : List α) : Prop := w.ownsRow 0 R.t R.n v l.length (R.cells l)

variable {R} {w w' : World} {v : Value} {g : Option Nat} {l : List α} {S : Nat → Prop}
theorem At.keep {b a : Nat} {x : α} (h : R.At w b a x) (hk : Keeps S w w') (hb : b < w.heap.size) (hs : ¬ S b) : R.At w' b a x :=
  fun k hk' => (hk.cell (p := ⟨b, a + k, none⟩) hb hs).trans (h k hk')
theorem Rd.keep (h : R.Rd w v g l) (hk : Keeps S w w') (hs : ∀ b, g = some b → ¬ S b) : R.Rd w' v g l := by
  obtain ⟨A, cap, hv, h1, h2, hu, h3, h4⟩ := h
  refine ⟨A, cap, hv, h1, h2, hu.mono hk.size, fun hp => ?_, h4⟩
  obtain ⟨b, off, hA, hg, hc⟩ := h3 hp
  exact ⟨b, off, hA, hg, fun i t hi => (hc i t hi).keep hk (hu b hg) (hs b hg)⟩
theorem Rd.same (h : R.Rd w v g l) (hk : Keeps nowhere w w') : R.Rd w' v g l := h.keep hk (fun _ _ h => h)
theorem Row.keep (h : R.Row w v l) (hk : Keeps S w w') (hs : ∀ b, v.ownBlock = some b → ¬ S b) : R.Row w' v l := own_keep h hk hs
theorem Row.same (h : R.Row w v l) (hk : Keeps nowhere w w') : R.Row w' v l := h.keep hk (fun _ _ h => h)
theorem Row.lt (h : R.Row w v l) : Under w.heap.size v.ownBlock := fun b hb => (World.ownsRow.lt h b hb).2
theorem Row.blk (h : R.Row w v l) : (v = .slice none 0 0 ∧ l = []) ∨ ∃ b cap rest, v = .slice (some ⟨b, 0, none⟩) l.length cap ∧ Blk w b R.t (R.cells l ++ rest).toArray ∧ l.length * R.n + rest.length = cap * R.n ∧ l.length ≤ cap ∧ cap ≤ maxLen := by
  obtain ⟨h1, h2⟩ := h
  rcases h2 with ⟨rfl, h2⟩ | ⟨b, cap, cur, rfl, hb, hg, h3, h4, h5, h6⟩
  · exact .inl ⟨rfl, List.eq_nil_of_length_eq_zero h2⟩
  · refine .inr ⟨b, cap, cur.toList.drop (l.length * R.n), rfl, ?_, ?_, h3, h4⟩
    · rw [← h6, List.take_append_drop]; exact hg
    · have : l.length * R.n ≤ cap * R.n := Nat.mul_le_mul_right _ h3
      rw [List.length_drop, show cur.toList.length = cap * R.n from h5]; omega
theorem Row.of_blk {b cap : Nat} {rest : List Value} (h : Blk w b R.t (R.cells l ++ rest).toArray) (h1 : l.length * R.n + rest.length = cap * R.n) (h2 : cap ≤ maxLen) : R.Row w (.slice (some ⟨b, 0, none⟩) l.length cap) l := by
  refine ⟨R.cells_len l, .inr ⟨b, cap, _, rfl, Nat.zero_le _, h, Nat.le_of_mul_le_mul_right (by omega) R.pos, h2, ?_, ?_⟩⟩
  · simp [R.cells_len]; omega
  · rw [List.take_append_of_le_length (by rw [R.cells_len]; exact Nat.le_refl _), List.take_of_length_le (by rw [R.cells_len]; exact Nat.le_refl _)]
theorem Row.rd (h : R.Row w v l) : R.Rd w v v.ownBlock l := by
  rcases h.blk with ⟨rfl, rfl⟩ | ⟨b, cap, rest, rfl, hb, h1, h2, h3⟩
  · exact ⟨none, 0, rfl, Nat.le_refl _, Nat.zero_le _, Under.none _, fun hp => absurd hp (by simp), fun _ => rfl⟩
  · refine ⟨_, cap, rfl, h2, h3, fun b' hb' => (by cases hb'; exact hb.lt), fun _ => ⟨b, 0, rfl, rfl, fun i t hi k hk => ?_⟩, fun h => by cases h⟩
    have hil : i < l.length := (List.getElem?_eq_some_iff.1 hi).1
    have hlt : i * R.n + k < l.length * R.n := by
      have : (i + 1) * R.n ≤ l.length * R.n := Nat.mul_le_mul_right _ hil
      rw [Nat.succ_mul] at this; omega
    rw [Nat.zero_add, hb.cell, List.getElem?_toArray, List.getElem?_append_left (by rw [R.cells_len]; exact hlt), R.cells_get l i t hi k hk]
theorem Rd.nil (R : RecT α) (w : World) : R.Rd w (.slice none 0 0) none [] := ⟨none, 0, rfl, Nat.le_refl _, Nat.zero_le _, Under.none _, fun hp => absurd hp (by simp), fun _ => rfl⟩
theorem Row.nil (R : RecT α) (w : World) : R.Row w (.slice none 0 0) [] := ⟨by simp [cells], .inl ⟨rfl, rfl⟩⟩
theorem Row.empty (R : RecT α) (w : World) : R.Row (w.alloc (.cells #[] R.t)) (.slice (some ⟨w.heap.size, 0, none⟩) 0 0) [] := by
  have := World.ownsRow_made (e := R.t) (size := R.n) w #[] 0 (Nat.zero_le _) (Nat.zero_le _) (by simp)
  simpa [Row, cells] using this
theorem Row.form (h : R.Row w v l) : ∃ A c, v = .slice A l.length c ∧ l.length ≤ c ∧ c ≤ maxLen ∧ (A = none → c = 0) := by
  obtain ⟨A, cap, hv, h1, h2, -, -, h4⟩ := h.rd
  exact ⟨A, cap, hv, h1, h2, h4⟩
theorem Row.at_ {b cap n : Nat} (hr : R.Row w (.slice (some ⟨b, 0, none⟩) n cap) l) {j : Nat} {t : α} (ht : l[j]? = some t) : R.At w b (j * R.n) t := by
  obtain ⟨A, c, hv, _, _, _, h3, _⟩ := hr.rd
  have hp : 0 < l.length := by have := (List.getElem?_eq_some_iff.1 ht).1; omega
  obtain ⟨b', off, hA, _, hc⟩ := h3 hp
  injection hv with ha _ _
  rw [hA] at ha
  injection ha with ha
  injection ha with ha hb
  subst ha hb
  have := hc j t ht
  rwa [Nat.zero_add] at this
theorem Row.take {b cap : Nat} (hr : R.Row w (.slice (some ⟨b, 0, none⟩) l.length cap) l) {i : Nat} (hi : i ≤ l.length) : R.Row w (.slice (some ⟨b, 0, none⟩) (l.take i).length cap) (l.take i) := by
  rcases hr.blk with ⟨h, _⟩ | ⟨b', cap', rest, hv, hb, h1, h2, h3⟩
  · cases h
  · injection hv with ha _ hc
    injection ha with ha
    injection ha with ha
    subst ha hc
    have hti : (l.take i).length = i := by simp; omega
    refine Row.of_blk (rest := R.cells (l.drop i) ++ rest) ?_ ?_ h3
    · rw [← List.append_assoc, ← R.cells_split]; exact hb
    · rw [List.length_append, R.cells_len, List.length_drop, hti, ← h1, Nat.sub_mul, ← Nat.add_assoc]
      have : i * R.n ≤ l.length * R.n := Nat.mul_le_mul_right _ hi
      omega
/-- `x[:k]`, `x[k:]` of a slice that reads -/
theorem Rd.take {A : Option Addr} {n cap : Nat} (h : R.Rd w (.slice A n cap) g l) (k : Nat) (hk : k ≤ l.length) : R.Rd w (.slice A k cap) g (l.take k) := by
  obtain ⟨A', cap', hv, h1, h2, hu, h3, h4⟩ := h
  injection hv with ha hn hc
  subst ha hc
  have hl : (l.take k).length = k := by simp; omega
  refine ⟨_, _, by rw [hl], by omega, h2, hu, fun hp => ?_, h4⟩
  obtain ⟨b, off, hA, hg, hc⟩ := h3 (by omega)
  refine ⟨b, off, hA, hg, fun i t hi => hc i t ?_⟩
  rw [List.getElem?_take] at hi
  split at hi
  · exact hi
  · cases hi
theorem Rd.drop {b off n cap : Nat} (h : R.Rd w (.slice (some ⟨b, off, none⟩) n cap) g l) (k : Nat) (hk : k ≤ l.length) : R.Rd w (.slice (some ⟨b, off + k * R.n, none⟩) (n - k) (cap - k)) g (l.drop k) := by
  obtain ⟨A', cap', hv, h1, h2, hu, h3, h4⟩ := h
  injection hv with ha hn hc
  subst ha hc
  refine ⟨_, cap - k, by rw [List.length_drop, ← hn], by rw [List.length_drop]; omega, by omega, hu, fun hp => ?_, fun h => by cases h⟩
  rw [List.length_drop] at hp
  obtain ⟨b', off', hA, hg, hc⟩ := h3 (by omega)
  injection hA with hA
  injection hA with hb ho
  subst hb ho
  refine ⟨b, _, rfl, hg, fun i t hi => ?_⟩
  rw [List.getElem?_drop] at hi
  have := hc _ t hi
  rwa [Nat.add_mul, ← Nat.add_assoc] at this
/-- a record in a block of its own, as buildSlice lays it -/
theorem Rd.one (R : RecT α) (w : World) (j : α) : R.Rd (w.alloc (.cells (R.cs j).toArray R.t)) (.slice (some ⟨w.heap.size, 0, none⟩) 1 1) (some w.heap.size) [j] := by
  have h := Blk.new w R.t (R.cs j).toArray
  refine ⟨_, 1, rfl, Nat.le_refl _, by decide, fun b hb => (by cases hb; exact h.lt), fun _ => ⟨w.heap.size, 0, rfl, rfl, fun i t hi k hk => ?_⟩, fun h => by cases h⟩
  have : i = 0 := by have := (List.getElem?_eq_some_iff.1 hi).1; simp at this; exact this
  subst this
  simp at hi
  subst hi
  rw [h.cell]
  simp

theorem Rd.cells_ {b off cap : Nat} (h : R.Rd w (.slice (some ⟨b, off, none⟩) l.length cap) g l) : ∀ j u, (R.cells l)[j]? = some u → w.cell? ((⟨b, off, none⟩ : Addr).add j) = some u := by
  intro j u hj
  have hjl : j < l.length * R.n := by have := (List.getElem?_eq_some_iff.1 hj).1; rwa [R.cells_len] at this
  have hq : j / R.n < l.length := (Nat.div_lt_iff_lt_mul R.pos).2 hjl
  obtain ⟨t, ht⟩ : ∃ t, l[j / R.n]? = some t := ⟨_, List.getElem?_eq_getElem hq⟩
  have hm := Nat.mod_lt j R.pos
  have hjj : j / R.n * R.n + j % R.n = j := by rw [Nat.mul_comm]; exact Nat.div_add_mod j R.n
  have hg := R.cells_get l (j / R.n) t ht (j % R.n) hm
  rw [hjj, hj] at hg
  obtain ⟨A, cap', hv, _, _, _, h3⟩ := h
  obtain ⟨b', off', hA, _, hc⟩ := h3.1 (Nat.lt_of_le_of_lt (Nat.zero_le _) hq)
  injection hv with ha hn hc'
  subst ha
  injection hA with hA
  injection hA with hb ho
  subst hb ho
  have := hc _ t ht (j % R.n) hm
  rw [Addr.add_lit, hg, ← this, Nat.add_assoc, hjj]

/-- append onto an owned row -/
theorem run_append {P : Program} {ts ty : TypeId} {z : Value} {by_ : Nat} (ht : P.underlying ts = some (.slice R.t)) (hinfo : (P.info? R.t).map (fun i => (i.zero, i.size, i.bytes)) = some (some z, R.n, by_)) (hz : z.cells.size = R.n) (hby : by_ ≤ 1000000)
    (hown : R.Row w v l) {vx : Value} {gx : Option Nat} {m : List α} (hr : R.Rd w vx gx m) (hb : l.length + m.length ≤ 100000000) :
    ∃ v' w', (Builtin.append_ #[ts, ts] ty #[v, vx]).run P w = .ok v' w' ∧ R.Row w' v' (l ++ m) ∧ w.grownBy w' v.ownBlock ∧ From v.ownBlock w.heap.size v'.ownBlock := by
  obtain ⟨i0, hi, hz0, hz1, hz2⟩ := info_parts hinfo
  have hbb : (l.length + m.length) * by_ ≤ 140737488355328 := Nat.le_trans (Nat.mul_le_mul hb hby) (by decide)
  by_cases hm : m = []
  · subst hm
    obtain ⟨A, cap, rfl, h1, h2, _, h3⟩ := hr
    cases A with
    | none =>
      obtain rfl : cap = 0 := by obtain ⟨-, h⟩ := h3; exact h rfl
      refine ⟨v, w, run_append_owned_none (P := P) (w := w) 0 ts ty R.t i0 R.n ht hi v l.length (R.cells l) hown, by rw [List.append_nil]; exact hown, World.grownBy.refl w _, From.refl _ _⟩
    | some a =>
      obtain ⟨v', w', hrun, h2, h3, _, h5⟩ := run_append_own_at (P := P) w 0 ts ty R.t i0 _ R.n by_ ht hi hz0 hz1 hz2 hz R.pos v l.length (R.cells l) hown a 0 cap [] (by simp)
        (fun j u hj => by simp at hj) (fun u hu => by simp at hu) (by unfold maxLen; simp at hb; omega) (by simpa using hbb) (Nat.zero_le _)
      refine ⟨v', w', hrun, by simpa [Row] using h2, h3, fun b hb => h5.elim (fun e => .inl (by rw [← e, hb])) (fun e => .inr (by rw [hb] at e; injection e with e; omega))⟩
  · have hp : 0 < m.length := List.length_pos_iff.2 hm
    have hr' := hr
    obtain ⟨A, cap, rfl, h1, h2, _, h3, _⟩ := hr
    obtain ⟨b, off, rfl, _, _⟩ := h3 hp
    obtain ⟨v', w', hrun, h2, h3, _, h5⟩ := run_append_own_at (P := P) w 0 ts ty R.t i0 _ R.n by_ ht hi hz0 hz1 hz2 hz R.pos v l.length (R.cells l) hown ⟨b, off, none⟩ m.length cap (R.cells m) (R.cells_len m)
      hr'.cells_ (R.cells_one m) (by unfold maxLen; omega) hbb (Nat.zero_le _)
    refine ⟨v', w', hrun, ?_, h3, fun b hb => h5.elim (fun e => .inl (by rw [← e, hb])) (fun e => .inr (by rw [hb] at e; injection e with e; omega))⟩
    unfold Row
    rw [R.cells_app, List.length_append]
    exact h2
theorem wpList_append {P : Program} {ops : Array Oper} {rest : List Oper} {o : Oper} {a : Act} {Q : Exit → Act → World → Prop} {ts : TypeId} {z : Value} {by_ : Nat}
    (ht : P.underlying ts = some (.slice R.t)) (hinfo : (P.info? R.t).map (fun i => (i.zero, i.size, i.bytes)) = some (some z, R.n, by_)) (hz : z.cells.size = R.n) (hby : by_ ≤ 1000000)
    (hgd : o.guard = none) (s x : Operand) (ho : o.op = .call { callee := .builtin .append, args := #[s, x], argTypes := #[ts, ts] })
    (v : Value) (l : List α) (hs : a.eval s = v) (hown : R.Row w v l) (vx : Value) (gx : Option Nat) (m : List α) (hx : a.eval x = vx) (hr : R.Rd w vx gx m) (hb : l.length + m.length ≤ 100000000)
    (h : ∀ v' w', R.Row w' v' (l ++ m) → Keeps (fun b => v.ownBlock = some b) w w' → From v.ownBlock w.heap.size v'.ownBlock → wpList P ops Q rest (a.put o.dst v') w') : wpList P ops Q (o :: rest) a w :=
  wpList_plain hgd fun K hK => by
    obtain ⟨v', w', hrun, h2, h3, h4⟩ := run_append (ty := o.type) ht hinfo hz hby hown hr hb
    unfold Oper.wp execOp
    simp only [ho, resolve, invoke, builtin, Sem.run_bind, Sem.run_pure, Result.andThen_ok, List.map_toArray, List.map_cons, List.map_nil, hs, hx, hrun]
    exact hK _ _ (h v' w' h2 ((Keeps.refl _ w).grown h3 (fun _ h _ => h)) h4)

/-- a list with some of its elements put anew -/
def sets : List Value → Nat → List Value → List Value
  | L, _, [] => L
  | L, o, u :: us => sets (L.set o u) (o + 1) us
theorem sets_app : ∀ (us A B C : List Value), B.length = us.length → sets (A ++ B ++ C) A.length us = A ++ us ++ C
  | [], A, B, C, h => by
    have : B = [] := List.eq_nil_of_length_eq_zero h
    subst this; simp [sets]
  | u :: us, A, [], C, h => by simp at h
  | u :: us, A, b :: B, C, h => by
    have := sets_app us (A ++ [u]) B C (by simpa using h)
    rw [sets, show ((A ++ b :: B ++ C).set A.length u) = (A ++ [u]) ++ B ++ C by simp, show A.length + 1 = (A ++ [u]).length by simp, this]
    simp
theorem blk_sets {b : Nat} {T : TypeId} : ∀ (us : List Value) (o : Nat) (w : World) (L : List Value), Blk w b T L.toArray → Blk (w.setCells b o us) b T (sets L o us).toArray ∧ Keeps (only b) w (w.setCells b o us)
  | [], o, w, L, h => ⟨h, Keeps.refl _ _⟩
  | u :: us, o, w, L, h => by
    have h1 := h.set_ o u
    rw [List.setIfInBounds_toArray] at h1
    obtain ⟨h2, h3⟩ := blk_sets us (o + 1) (w.setCell ⟨b, o, none⟩ u) _ h1
    exact ⟨h2, ((Keeps.refl (only b) w).setCell (p := ⟨b, o, none⟩) (fun _ => rfl) u).trans h3 (fun _ _ h => h)⟩
theorem cells_set (R : RecT α) (l : List α) (i : Nat) (t : α) (hi : i < l.length) (rest : List Value) : sets (R.cells l ++ rest) (i * R.n) (R.cs t) = R.cells (l.set i t) ++ rest := by
  have h1 : R.cells l = R.cells (l.take i) ++ R.cs l[i] ++ R.cells (l.drop (i + 1)) := by
    have e : l = l.take i ++ l[i] :: l.drop (i + 1) := by rw [← List.drop_eq_getElem_cons hi, List.take_append_drop]
    exact (congrArg R.cells e).trans (by rw [cells_app]; simp only [cells, List.flatMap_cons, List.append_assoc])
  have h2 : R.cells (l.set i t) = R.cells (l.take i) ++ R.cs t ++ R.cells (l.drop (i + 1)) := by
    rw [List.set_eq_take_append_cons_drop, if_pos hi, cells_app]
    simp [cells]
  have hl : (R.cells (l.take i)).length = i * R.n := by rw [cells_len, List.length_take, Nat.min_eq_left (by omega)]
  rw [h1, h2, ← hl, List.append_assoc, sets_app _ _ _ _ (by rw [R.len, R.len])]
  simp
/-- a record is stored into a row -/
theorem Row.store {b cap : Nat} (hr : R.Row w (.slice (some ⟨b, 0, none⟩) l.length cap) l) {i : Nat} (hi : i < l.length) (t : α) :
    (∀ k, k < R.n → (∃ u, w.cell? ⟨b, i * R.n + k, none⟩ = some u) ∧ w.frozen? ⟨b, i * R.n + k, none⟩ = false) ∧
    R.Row (w.setCells b (i * R.n) (R.cs t)) (.slice (some ⟨b, 0, none⟩) l.length cap) (l.set i t) ∧ Keeps (only b) w (w.setCells b (i * R.n) (R.cs t)) := by
  rcases hr.blk with ⟨h, _⟩ | ⟨b', cap', rest, hv, hb, h1, h2, h3⟩
  · cases h
  · injection hv with ha _ hc
    injection ha with ha
    injection ha with ha
    subst ha hc
    obtain ⟨h4, h5⟩ := blk_sets (R.cs t) (i * R.n) w _ hb
    rw [cells_set R l i t hi] at h4
    refine ⟨fun k hk => ⟨?_, hb.frozen _⟩, ?_, h5⟩
    · refine ⟨_, (hb.cell _).trans (Array.getElem?_eq_getElem ?_)⟩
      have : (i + 1) * R.n ≤ l.length * R.n := Nat.mul_le_mul_right _ hi
      rw [Nat.succ_mul] at this
      simp [R.cells_len]; omega
    · have := Row.of_blk (l := l.set i t) h4 (by rw [List.length_set]; exact h1) h3
      rwa [List.length_set] at this
theorem zeroCells_mem {cs : Array Value} (h : ∀ u ∈ cs.toList, u.oneCell' = true) (n : Nat) : ∀ v ∈ (Builtin.zeroCells cs n).toList, v.oneCell' = true := by
  intro v hv
  unfold Builtin.zeroCells at hv
  rw [Array.toList_map] at hv
  obtain ⟨i, hi, rfl⟩ := List.mem_map.1 hv
  rw [Array.toList_range, List.mem_range] at hi
  have hs : 0 < cs.size := Nat.pos_of_ne_zero fun e => by rw [e] at hi; omega
  have hlt := Nat.mod_lt i hs
  rw [getElem!_pos cs (i % cs.size) hlt]
  exact h _ (by simp)
/-- what lies behind a row is cleared -/
theorem Row.clear {P : Program} {ts : TypeId} {z : Value} (ht : P.underlying ts = some (.slice R.t)) (hzv : ∀ w, (zeroValue R.t).run P w = .ok z w) (hz : z.cells.size = R.n) (hz1 : ∀ u ∈ z.cells.toList, u.oneCell' = true)
    (b cap n c : Nat) (hr : R.Row w (.slice (some ⟨b, 0, none⟩) l.length cap) l) (hn : 0 < n) (hle : l.length + n ≤ cap) :
    ∃ w', (∀ ty, (Builtin.clear_ #[ts] ty #[.slice (some ⟨b, l.length * R.n, none⟩) n c]).run P w = .ok (.tuple #[]) w') ∧ R.Row w' (.slice (some ⟨b, 0, none⟩) l.length cap) l ∧ Keeps (only b) w w' := by
  rcases hr.blk with ⟨h, _⟩ | ⟨b', cap', rest, hv, hb, h1, h2, h3⟩
  · cases h
  · injection hv with ha _ hc
    injection ha with ha
    injection ha with ha
    subst ha hc
    obtain ⟨Z, hZ⟩ : ∃ Z, Z = (Builtin.zeroCells z.cells n).toList := ⟨_, rfl⟩
    have hZl : Z.length = n * R.n := by rw [hZ, Array.length_toList, size_zeroCells, hz]
    have hmul : (l.length + n) * R.n ≤ cap * R.n := Nat.mul_le_mul_right _ hle
    rw [Nat.add_mul] at hmul
    have hsz : (R.cells l ++ rest).toArray.size = cap * R.n := by simp [R.cells_len]; omega
    have hcell : ∀ j, j < Z.length → (w.cell? ⟨b, l.length * R.n + j, none⟩).isSome = true := fun j hj => by
      rw [hb.cell, Array.getElem?_eq_getElem (by rw [hsz]; omega)]; rfl
    have hst := run_storeCells_cells (P := P) b (l.length * R.n) Z 0 w (by simpa using hcell) (fun j _ => by simpa using hb.frozen _) (by
      intro v hv
      rw [hZ] at hv
      exact zeroCells_mem hz1 n v hv)
    simp only [Nat.add_zero] at hst
    obtain ⟨h4, h7⟩ := blk_sets Z (l.length * R.n) w _ hb
    refine ⟨w.setCells b (l.length * R.n) Z, fun ty => ?_, ?_, h7⟩
    · obtain ⟨m, rfl⟩ : ∃ m, n = m + 1 := ⟨n - 1, by omega⟩
      simp [Builtin.clear_, run_underlying ht, hzv, ← hZ, hst]
    · have hres : sets (R.cells l ++ rest) (l.length * R.n) Z = R.cells l ++ (Z ++ rest.drop Z.length) := by
        rw [← R.cells_len]
        have e : R.cells l ++ rest = R.cells l ++ rest.take Z.length ++ rest.drop Z.length := by rw [List.append_assoc, List.take_append_drop]
        rw [e, sets_app _ _ _ _ (by rw [List.length_take]; omega), List.append_assoc]
      rw [hres] at h4
      refine Row.of_blk h4 ?_ h3
      rw [List.length_append, List.length_drop]
      omega
end RecT
end Go.Proofs.Ytnddaildicmneaa
