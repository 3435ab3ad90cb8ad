/-
  append of bytes: onto a row of bytes of the call's own, from any slice that reads as bytes.
-/
import Derived.Test.YtnddaildicmneaaClone
import Derived.Test.YtnddaildicmneaaAppend
namespace Go.Proofs.Ytnddaildicmneaa
open Go.RowKit

/-- The value owns a row that reads as the bytes `L`. -/
def OwnB (w : World) (v : Value) (L : List UInt8) : Prop := w.ownsRow 0 5 1 v L.length (L.map bv)
theorem OwnB.rd {w : World} {v : Value} {L : List UInt8} (h : OwnB w v L) : Rd w v v.ownBlock (L.map bv) := Rd.of_own h
theorem OwnB.nil (w : World) : OwnB w (.slice none 0 0) [] := World.ownsRow_nil _ _ _ _
theorem OwnB.empty (w : World) : OwnB (w.alloc (.cells #[] 5)) (.slice (some ⟨w.heap.size, 0, none⟩) 0 0) [] := World.ownsRow_made w #[] 0 (Nat.zero_le _) (Nat.zero_le _) rfl
theorem OwnB.keep {w w' : World} {v : Value} {L : List UInt8} {S : Nat → Prop} (h : OwnB w v L) (hk : Keeps S w w') (hs : ∀ b, v.ownBlock = some b → ¬ S b) : OwnB w' v L := own_keep h hk hs
theorem OwnB.lt {w : World} {v : Value} {L : List UInt8} (h : OwnB w v L) : Under w.heap.size v.ownBlock := fun b hb => (World.ownsRow.lt h b hb).2
/-- its form, for a store -/
theorem OwnB.form {w : World} {v : Value} {L : List UInt8} (h : OwnB w v L) : v = .slice none 0 0 ∨ ∃ g cap, v = .slice (some ⟨g, 0, none⟩) L.length cap := by
  rcases h.2 with ⟨h, _⟩ | ⟨g, cap, cur, h, _⟩
  · exact .inl h
  · exact .inr ⟨g, cap, h⟩
theorem OwnB.form' {w : World} {v : Value} {L : List UInt8} (h : OwnB w v L) : ∃ A c, v = .slice A L.length c ∧ L.length ≤ c ∧ c ≤ maxLen := by
  have := (OwnB.rd h).form
  rwa [List.length_map] at this
theorem bv_map_inj {L M : List UInt8} (h : L.map bv = M.map bv) : L = M := by
  induction L generalizing M with
  | nil => cases M with
    | nil => rfl
    | cons b M => simp at h
  | cons a L ih =>
    cases M with
    | nil => simp at h
    | cons b M =>
      simp only [List.map_cons, List.cons.injEq] at h
      obtain ⟨h1, h2⟩ := h
      rw [ih h2]
      have : (a.toNat : Int) = b.toNat := by unfold bv at h1; injection h1
      have hab : a = b := UInt8.toNat_inj.1 (by omega)
      rw [hab]

section
variable {ops : Array Oper} {rest : List Oper} {o : Oper} {a : Act} {Q : Exit → Act → World → Prop} {w : World}
theorem own_bytes_app {w' : World} {v' : Value} {L M : List UInt8} (h : w'.ownsRow 0 5 1 v' (L.length + (M.map bv).length) (L.map bv ++ M.map bv)) : OwnB w' v' (L ++ M) := by
  unfold OwnB
  simpa using h

theorem wp_append_bytes {K : Act → World → Prop} (s x : Operand) (ho : o.op = .call { callee := .builtin .append, args := #[s, x], argTypes := #[41, 41] })
    (v : Value) (L : List UInt8) (hs : a.eval s = v) (hown : OwnB w v L) (vx : Value) (gx : Option Nat) (M : List UInt8) (hx : a.eval x = vx) (hr : Rd w vx gx (M.map bv)) (hb : L.length + M.length ≤ 1099511627776)
    (h : ∀ v' w', OwnB w' v' (L ++ M) → Keeps (fun b => v.ownBlock = some b) w w' → From v.ownBlock w.heap.size v'.ownBlock → K (a.put o.dst v') w') : o.wp Try.prog a w K Q := by
  obtain ⟨i0, hi, hz0, hz1, hz2⟩ := info_parts infoU8
  exact wp_append_rd w s x _ ho 0 5 i0 _ 1 Try.underlying41 hi hz0 hz1 hz2 rfl v L.length (L.map bv) hs hown vx gx (M.map bv) hx hr (bv_one M) (by simp [maxLen]; omega) (by simp; omega) (Nat.zero_le _)
    fun v' w' h1 h2 h3 => h v' w' (own_bytes_app h1) (keeps_append h2) h3
theorem wpList_append_bytes (hgd : o.guard = none) (s x : Operand) (ho : o.op = .call { callee := .builtin .append, args := #[s, x], argTypes := #[41, 41] })
    (v : Value) (L : List UInt8) (hs : a.eval s = v) (hown : OwnB w v L) (vx : Value) (gx : Option Nat) (M : List UInt8) (hx : a.eval x = vx) (hr : Rd w vx gx (M.map bv)) (hb : L.length + M.length ≤ 1099511627776)
    (h : ∀ v' w', OwnB w' v' (L ++ M) → Keeps (fun b => v.ownBlock = some b) w w' → From v.ownBlock w.heap.size v'.ownBlock → wpList Try.prog ops Q rest (a.put o.dst v') w') : wpList Try.prog ops Q (o :: rest) a w :=
  wpList_plain hgd fun _ hK => wp_append_bytes s x ho v L hs hown vx gx M hx hr hb fun v' w' h2 h3 h4 => hK _ _ (h v' w' h2 h3 h4)
theorem step_append_bytes {K : Act → World → Prop} {E : Prop} (hgd : o.guard = none) (s x : Operand) (ho : o.op = .call { callee := .builtin .append, args := #[s, x], argTypes := #[41, 41] })
    (v : Value) (L : List UInt8) (hs : a.eval s = v) (hown : OwnB w v L) (vx : Value) (gx : Option Nat) (M : List UInt8) (hx : a.eval x = vx) (hr : Rd w vx gx (M.map bv)) (hb : L.length + M.length ≤ 1099511627776)
    (h : ∀ v' w', OwnB w' v' (L ++ M) → Keeps (fun b => v.ownBlock = some b) w w' → From v.ownBlock w.heap.size v'.ownBlock → K (a.put o.dst v') w') :
    if Region.wanted o (yielded ops a.tmps) = true then Oper.wp Try.prog o a w K Q else E := by
  have hw : Region.wanted o (yielded ops a.tmps) = true := by simp [Region.wanted, hgd]
  rw [if_pos hw]
  exact wp_append_bytes s x ho v L hs hown vx gx M hx hr hb h
end
end Go.Proofs.Ytnddaildicmneaa
