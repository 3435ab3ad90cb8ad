/-
  frame: the plain laws of 'feed': in two steps as in one; what it leaves; whole frames come out as they were.
-/
import Derived.Test.YtblmbchjafffbaaF6
namespace Go.Proofs.Ytblmbchjafffbaa
open Go.RowKit

theorem sizeN_app {X C : List UInt8} (h : 4 ≤ X.length) : sizeN (X ++ C) = sizeN X := by
  unfold sizeN
  rw [List.take_append_of_le_length h]

theorem feed_app (m : Nat) (C : List UInt8) : ∀ (n : Nat) (X : List UInt8), X.length ≤ n → feed m (X ++ C) = ((feed m X).1 ++ (feedS m (feed m X).2.1 (feed m X).2.2 C).1, (feedS m (feed m X).2.1 (feed m X).2.2 C).2)
  | n, X, hn => by
    by_cases hw : X.length < 4 ∨ (7 ≤ sizeN X ∧ sizeN X ≤ m ∧ X.length < sizeN X)
    · rw [feed_wait hw]; simp [feedS]
    · by_cases hd : sizeN X < 7 ∨ m < sizeN X
      · rw [feed_dead (m := m) (L := X) ⟨by omega, hd⟩, feed_dead ⟨by rw [List.length_append]; omega, by rw [sizeN_app (by omega)]; exact hd⟩]
        simp [feedS]
      · have hc : 7 ≤ sizeN X ∧ sizeN X ≤ m ∧ sizeN X ≤ X.length := by omega
        have hs := sizeN_app (X := X) (C := C) (by omega)
        rw [feed_cut hc, feed_cut (m := m) (L := X ++ C) (by rw [hs, List.length_append]; omega), hs]
        have e1 : (X ++ C).drop (sizeN X) = X.drop (sizeN X) ++ C := List.drop_append_of_le_length (by omega)
        rw [e1]
        match n, hn with
        | 0, hn => omega
        | n + 1, hn =>
          rw [feed_app m C n (X.drop (sizeN X)) (by rw [List.length_drop]; omega)]
          have e : ((X ++ C).drop 4).take (sizeN X - 4) = (X.drop 4).take (sizeN X - 4) := by
            rw [List.drop_append_of_le_length (by omega), List.take_append_of_le_length (by rw [List.length_drop]; omega)]
          rw [e]
          simp

theorem feedS_app (m : Nat) (L : List UInt8) (d : Bool) (B C : List UInt8) :
    feedS m L d (B ++ C) = ((feedS m L d B).1 ++ (feedS m (feedS m L d B).2.1 (feedS m L d B).2.2 C).1, (feedS m (feedS m L d B).2.1 (feedS m L d B).2.2 C).2) := by
  cases d
  · show feed m (L ++ (B ++ C)) = _
    rw [← List.append_assoc, feed_app m C _ (L ++ B) (Nat.le_refl _)]
    rfl
  · simp [feedS]

theorem feed_le (m : Nat) : ∀ (n : Nat) (X : List UInt8), X.length ≤ n → (feed m X).1.length + (feed m X).2.1.length ≤ X.length
  | n, X, hn => by
    by_cases hw : X.length < 4 ∨ (7 ≤ sizeN X ∧ sizeN X ≤ m ∧ X.length < sizeN X)
    · rw [feed_wait hw]; simp
    · by_cases hd : sizeN X < 7 ∨ m < sizeN X
      · rw [feed_dead (m := m) (L := X) ⟨by omega, hd⟩]; simp
      · have hc : 7 ≤ sizeN X ∧ sizeN X ≤ m ∧ sizeN X ≤ X.length := by omega
        rw [feed_cut hc]
        match n, hn with
        | 0, hn => omega
        | n + 1, hn =>
          have h := feed_le m n (X.drop (sizeN X)) (by rw [List.length_drop]; omega)
          rw [List.length_drop] at h
          simp only [List.length_cons]
          omega
theorem feedS_le (m : Nat) (L : List UInt8) (d : Bool) (B : List UInt8) : (feedS m L d B).1.length + (feedS m L d B).2.1.length ≤ L.length + B.length := by
  cases d
  · have h := feed_le m _ (L ++ B) (Nat.le_refl _)
    rw [List.length_append] at h
    exact h
  · simp [feedS]

theorem sizeN_frm (B C : List UInt8) (h : B.length ≤ 8188) : sizeN (frm B ++ C) = B.length + 4 := by
  rw [sizeN_app (by simp [frm, nb_len]), sizeN, frm, List.take_append_of_le_length (by simp [nb_len]), List.take_of_length_le (by simp [nb_len]), le_nb]
  exact Nat.mod_eq_of_lt (by omega)

theorem feed_frm (B C : List UInt8) (h3 : 3 ≤ B.length) (h : B.length ≤ 8188) : feed 8192 (frm B ++ C) = (B :: (feed 8192 C).1, (feed 8192 C).2) := by
  have hs := sizeN_frm B C h
  have hl : (frm B).length = B.length + 4 := by simp [frm, nb_len]; omega
  rw [feed_cut (by rw [hs, List.length_append]; omega), hs]
  have e1 : (frm B ++ C).drop (B.length + 4) = C := by rw [← hl, List.drop_left]
  have e2 : ((frm B ++ C).drop 4).take (B.length + 4 - 4) = B := by
    rw [frm, List.append_assoc, List.drop_append_of_le_length (by simp [nb_len]), List.drop_of_length_le (by simp [nb_len]), List.nil_append, Nat.add_sub_cancel, List.take_left]
  rw [e1, e2]

theorem feed_frms : ∀ (Ls : List (List UInt8)), (∀ B ∈ Ls, 3 ≤ B.length ∧ B.length ≤ 8188) → feed 8192 (Ls.map frm).flatten = (Ls, [], false)
  | [], _ => feed_wait (.inl (by simp))
  | B :: Ls, h => by
    rw [List.map_cons, List.flatten_cons, feed_frm B _ (h B (by simp)).1 (h B (by simp)).2, feed_frms Ls (fun X hX => h X (by simp [hX]))]
end Go.Proofs.Ytblmbchjafffbaa
