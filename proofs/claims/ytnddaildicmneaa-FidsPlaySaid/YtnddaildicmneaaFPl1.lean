/-
  fid: small facts for the play's walk: a box of a fid, a call of the play; rows beside them. Plain words.
-/
import Derived.Test.YtnddaildicmneaaFPl0
namespace Go.Proofs.Ytnddaildicmneaa
open Go.RowKit Go.Maps

theorem row_at {α : Type} {R : RecT α} {w : World} {A : Option Addr} {n c : Nat} {l : List α} (h : R.Row w (.slice A n c) l) {k : Nat} {t : α} (ht : l[k]? = some t) : ∃ b off, A = some ⟨b, off, none⟩ ∧ b < w.heap.size ∧ R.At w b (off + k * R.n) t := by
  obtain ⟨A', cap, hv, -, -, hu, h3, -⟩ := h.rd
  injection hv with ha _ _
  subst ha
  obtain ⟨b, off, hA, hg, hc⟩ := h3 (by have := (List.getElem?_eq_some_iff.1 ht).1; omega)
  exact ⟨b, off, hA, hu b hg, hc k t ht⟩
def thereB (m : List (Nat × FidV)) (x k : Nat) : Bool := match m[k]? with | some t => t.1 == x | none => false

theorem stand_ins {w0 w : World} {p b k X : Nat} {m : List (Nat × FidV)} {f : FidV} {v4 v5 : Value} (h : FOwn w0 w p b (m.take k ++ (X, f) :: m.drop k))
    (hi : recU4.Row w v4 ((m.map Prod.fst).take k ++ X :: (m.map Prod.fst).drop k)) (hr : recF.Row w v5 ((m.map Prod.snd).take k ++ f :: (m.map Prod.snd).drop k)) : Stand20 w0 w p b (m.take k ++ (X, f) :: m.drop k) v4 v5 :=
  ⟨h, by simpa only [List.map_append, List.map_cons, List.map_take, List.map_drop] using hi, by simpa only [List.map_append, List.map_cons, List.map_take, List.map_drop] using hr⟩
theorem thereB_cases {m : List (Nat × FidV)} {x k : Nat} (h : PosOf m x k) (hr : Rising m) :
    (thereB m x k = true ∧ ∃ g, m[k]? = some (x, g)) ∨ (thereB m x k = false ∧ (∀ t : Nat × FidV, m[k]? = some t → t.1 ≠ x) ∧ look m x = .none) := by
  unfold thereB
  cases ht : m[k]? with
  | none => exact .inr ⟨rfl, (fun t h => by cases h), look_none (PosOf.none h hr (fun t h => by rw [ht] at h; cases h))⟩
  | some t =>
    by_cases e : t.1 = x
    · obtain ⟨y, g⟩ := t
      simp only at e
      subst e
      exact .inl ⟨by simp, g, rfl⟩
    · have hn : ∀ t' : Nat × FidV, m[k]? = some t' → t'.1 ≠ x := fun t' h => by rw [ht] at h; injection h with h; subst h; exact e
      exact .inr ⟨by simpa using e, (fun t' h => by injection h with h; subst h; exact e), look_none (PosOf.none h hr hn)⟩

theorem box_cells {w : World} {q : Nat} {o : Int} {X : Nat} {f1 : ByteArray} {f2 : Nat} {f3 : Bool} {f4 f5 : Nat} {f6 : Int} (h : ActBox20 w q ⟨o, X, ⟨f1, f2, f3, f4, f5, f6⟩⟩) :
    w.cell? ⟨q, 0, none⟩ = some (.int .i64 o) ∧ w.cell? ⟨q, 1, none⟩ = some (.int .u32 X) ∧ w.cell? ⟨q, 2, none⟩ = some (.string f1) ∧ w.cell? ⟨q, 3, none⟩ = some (.int .u64 f2) ∧ w.cell? ⟨q, 4, none⟩ = some (.bool f3) ∧
    w.cell? ⟨q, 5, none⟩ = some (.int .u8 f4) ∧ w.cell? ⟨q, 6, none⟩ = some (.int .u64 f5) ∧ w.cell? ⟨q, 7, none⟩ = some (.int .i64 f6) := by
  have a := ActBox20.cells h
  exact ⟨a 0, a 1, a 2, a 3, a 4, a 5, a 6, a 7⟩
theorem fbox_cells {w : World} {q : Nat} {f : FidV} (h : Blk w q 31 f.cs.toArray) :
    w.cell? ⟨q, 0, none⟩ = some (.string f.user) ∧ w.cell? ⟨q, 1, none⟩ = some (.int .u64 f.path) ∧ w.cell? ⟨q, 2, none⟩ = some (.bool f.opn) ∧
    w.cell? ⟨q, 3, none⟩ = some (.int .u8 f.mode) ∧ w.cell? ⟨q, 4, none⟩ = some (.int .u64 f.next) ∧ w.cell? ⟨q, 5, none⟩ = some (.int .i64 f.seen) := by
  have a : ∀ k, w.cell? ⟨q, k, none⟩ = f.cs[k]? := fun k => by rw [Blk.cell h]; simp
  exact ⟨a 0, a 1, a 2, a 3, a 4, a 5⟩
/-- a block is written with what it holds already -/
theorem box_again {w : World} {q : Nat} {T : TypeId} {us : List Value} (h : Blk w q T us.toArray) : Blk (w.setCells q 0 us) q T us.toArray ∧ Keeps (only q) w (w.setCells q 0 us) := by
  obtain ⟨h1, h2⟩ := RecT.blk_sets us 0 w us h
  have := RecT.sets_app us [] us [] rfl
  simp only [List.nil_append, List.append_nil, List.length_nil] at this
  rw [this] at h1
  exact ⟨h1, h2⟩
theorem row_ne_blk {α : Type} {R : RecT α} {w : World} {v : Value} {l : List α} {q : Nat} {T : TypeId} {cs : Array Value} (h : R.Row w v l) (hb : Blk w q T cs) (ht : R.t ≠ T) : v.ownBlock ≠ some q := by
  intro e
  rcases h.blk with ⟨rfl, -⟩ | ⟨b', c, rest, rfl, hb2, -⟩
  · simp [Value.ownBlock] at e
  · simp only [Value.ownBlock, Option.some.injEq] at e
    subst e
    unfold Blk at hb hb2
    rw [hb] at hb2
    injection hb2 with hb2
    injection hb2 with _ h2
    exact ht h2.symm
theorem map_there {m : List (Nat × FidV)} {k X : Nat} {f g : FidV} (h : m[k]? = some (X, g)) : (m.take k ++ (X, f) :: m.drop (k + 1)).map (·.1) = m.map (·.1) := by
  obtain ⟨hk, he⟩ := List.getElem?_eq_some_iff.1 h
  have e : m = m.take k ++ (X, g) :: m.drop (k + 1) := by rw [← he, ← List.drop_eq_getElem_cons hk, List.take_append_drop]
  conv => rhs; rw [e]
  simp
theorem stand_outs {w0 w : World} {p b k : Nat} {m : List (Nat × FidV)} {v4 v5 : Value} (h : FOwn w0 w p b (m.take k ++ m.drop (k + 1)))
    (hi : recU4.Row w v4 ((m.map Prod.fst).take k ++ (m.map Prod.fst).drop (k + 1))) (hr : recF.Row w v5 ((m.map Prod.snd).take k ++ (m.map Prod.snd).drop (k + 1))) : Stand20 w0 w p b (m.take k ++ m.drop (k + 1)) v4 v5 :=
  ⟨h, by simpa only [List.map_append, List.map_cons, List.map_take, List.map_drop] using hi, by simpa only [List.map_append, List.map_cons, List.map_take, List.map_drop] using hr⟩
end Go.Proofs.Ytnddaildicmneaa
