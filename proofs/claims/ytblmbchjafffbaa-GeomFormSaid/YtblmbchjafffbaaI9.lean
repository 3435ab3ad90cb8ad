/-
  inode: law 11's check.
-/
import Derived.Test.YtblmbchjafffbaaI8
namespace Go.Proofs.Ytblmbchjafffbaa
open Go.RowKit

theorem lt_maxL (n : Nat) : ∀ (xs : List Nat) (a : Nat), n < xs.foldl max a ↔ n < a ∨ ∃ x ∈ xs, n < x
  | [], a => by simp
  | x :: xs, a => by
    rw [List.foldl_cons, lt_maxL n xs (max a x)]
    constructor
    · rintro (h | ⟨y, hy, h⟩)
      · rcases Nat.lt_or_ge n a with h1 | h1
        · exact .inl h1
        · exact .inr ⟨x, by simp, by omega⟩
      · exact .inr ⟨y, by simp [hy], h⟩
    · rintro (h | ⟨y, hy, h⟩)
      · exact .inl (by omega)
      · rcases List.mem_cons.1 hy with rfl | hy
        · exact .inl (by omega)
        · exact .inr ⟨y, hy, h⟩
theorem blocks_big (i : Ino) : 65535 < maxL i.blocks ↔ 65535 < i.a ∨ 65535 < i.b ∨ ∃ x ∈ i.dir, 65535 < x := by
  unfold maxL
  rw [lt_maxL]
  constructor
  · rintro (h | ⟨x, hx, h⟩)
    · omega
    · simp only [Ino.blocks, List.mem_cons, List.not_mem_nil, or_false] at hx
      rcases hx with rfl | rfl | rfl | rfl | rfl | rfl | rfl | rfl | rfl | rfl
      all_goals first
        | exact .inl h
        | exact .inr (.inl h)
        | exact .inr (.inr ⟨_, by simp [Ino.dir], h⟩)
  · rintro (h | h | ⟨x, hx, h⟩)
    · exact .inr ⟨_, by simp [Ino.blocks], h⟩
    · exact .inr ⟨_, by simp [Ino.blocks], h⟩
    · refine .inr ⟨x, ?_, h⟩
      simp only [Ino.dir, Ino.blocks, List.mem_cons, List.not_mem_nil, or_false] at hx ⊢
      rcases hx with rfl | rfl | rfl | rfl | rfl | rfl | rfl | rfl <;> simp
theorem chk_one {i : Ino} (h : 1073741824 < i.s ∨ 1000 < i.l ∨ 65535 < i.a ∨ 65535 < i.b ∨ ∃ x ∈ i.dir, 65535 < x) : chkI i = 1 := by
  rw [chkI, if_pos]
  rw [blocks_big]
  rcases h with h | h | h
  · exact .inl h
  · exact .inr (.inl h)
  · exact .inr (.inr h)
theorem chk_zero {i : Ino} (h1 : ¬ 1073741824 < i.s) (h2 : ¬ 1000 < i.l) (h3 : ¬ 65535 < i.a) (h4 : ¬ 65535 < i.b) (h5 : ∀ x ∈ i.dir, ¬ 65535 < x) : chkI i = 0 := by
  rw [chkI, if_neg]
  rw [blocks_big]
  rintro (h | h | h | h | ⟨x, hx, h⟩)
  · exact h1 h
  · exact h2 h
  · exact h3 h
  · exact h4 h
  · exact h5 x hx h

set_option maxHeartbeats 3200000 in
set_option maxRecDepth 20000 in
theorem lcheck (i : Ino) (w : World) : Calls Try.prog 26 #[i.val] w fun e w' => e = .returned (.int .i64 (chkI i)) ∧ Keeps nowhere w w' := by
  obtain ⟨w1, hw1⟩ : ∃ w1, w1 = w.alloc (.cells i.cells 48) := ⟨_, rfl⟩
  have hk0 : Keeps nowhere w w1 := by rw [hw1]; exact (Keeps.refl _ _).alloc _
  have hb1 : Blk w1 w.heap.size 48 i.cells := by rw [hw1]; exact Blk.new _ _ _
  have hcell : ∀ k (hk : k < i.dir.length), w1.cell? ⟨w.heap.size, 4 + k, none⟩ = some (.int .u32 (i.dir[k] : Nat)) := fun k hk => by
    have hk8 : k < 8 := hk
    rw [hb1.cell]
    match k, hk8 with
    | 0, _ => rfl
    | 1, _ => rfl
    | 2, _ => rfl
    | 3, _ => rfl
    | 4, _ => rfl
    | 5, _ => rfl
    | 6, _ => rfl
    | 7, _ => rfl
  have hdl : i.dir.length = 8 := rfl
  obtain ⟨C, hC⟩ : ∃ C, C = chkI i := ⟨_, rfl⟩
  rw [← hC]
  unfold Ino.val
  unfold Ino.cells at hw1 ⊢
  have Hk0 := Lib.hid hk0
  have Hw1 := Lib.hid hw1
  have Hb1 := Lib.hid hb1
  have Hcell := Lib.hid hcell
  have HC := Lib.hid hC
  have Hdl := Lib.hid hdl
  clear hk0 hw1 hb1 hcell hC hdl
  by_cases h1 : 1073741824 < i.s
  · have h1' : (i.s : Int) > 1073741824 := by omega
    have hC1 : C = 1 := by rw [HC.out]; exact chk_one (.inl h1)
    go_enter Try.func26, Try.ntmps26
    have HC1 := Lib.hid hC1
    clear hC1
    go_wp2_with fail
    go_ret
    exact ⟨by rw [HC1.out]; rfl, by rw [← Hw1.out]; exact Hk0.out⟩
  · have h1' : ¬ (i.s : Int) > 1073741824 := by omega
    by_cases h2 : 1000 < i.l
    · have h2' : (i.l : Int) > 1000 := by omega
      have hC1 : C = 1 := by rw [HC.out]; exact chk_one (.inr (.inl h2))
      have HC1 := Lib.hid hC1
      clear hC1
      go_enter Try.func26, Try.ntmps26
      go_wp2_with fail
      go_ret
      exact ⟨by rw [HC1.out]; rfl, by rw [← Hw1.out]; exact Hk0.out⟩
    · have h2' : ¬ (i.l : Int) > 1000 := by omega
      by_cases h3 : 65535 < i.a
      · have h3' : (i.a : Int) > 65535 := by omega
        have hC1 : C = 1 := by rw [HC.out]; exact chk_one (.inr (.inr (.inl h3)))
        have HC1 := Lib.hid hC1
        clear hC1
        go_enter Try.func26, Try.ntmps26
        go_wp2_with fail
        go_ret
        exact ⟨by rw [HC1.out]; rfl, by rw [← Hw1.out]; exact Hk0.out⟩
      · have h3' : ¬ (i.a : Int) > 65535 := by omega
        by_cases h4 : 65535 < i.b
        · have h4' : (i.b : Int) > 65535 := by omega
          have hC1 : C = 1 := by rw [HC.out]; exact chk_one (.inr (.inr (.inr (.inl h4))))
          have HC1 := Lib.hid hC1
          clear hC1
          go_enter Try.func26, Try.ntmps26
          go_wp2_with fail
          go_ret
          exact ⟨by rw [HC1.out]; rfl, by rw [← Hw1.out]; exact Hk0.out⟩
        · have h4' : ¬ (i.b : Int) > 65535 := by omega
          go_enter Try.func26, Try.ntmps26
          go_wp2_with fail
          rw [← Hw1.out]
          go_loop [3] (fun iv => ∃ k : Nat, k ≤ 8 ∧ iv = .int .i64 k ∧ ∀ x ∈ i.dir.take k, ¬ 65535 < x) (fun iv => 8 - (intOf iv).toNat)
          case atStart => exact ⟨0, Nat.zero_le _, rfl, by simp⟩
          case round =>
            obtain ⟨k, hk, rfl, hno⟩ := hrel
            by_cases hlt : k < 8
            · have hkx : k < i.dir.length := hlt
              have hc := Hcell.out k hkx
              have hmem := List.getElem_mem hkx
              have hsucc : i.dir.take (k + 1) = i.dir.take k ++ [i.dir[k]] := by rw [List.take_add_one, List.getElem?_eq_getElem hkx]; rfl
              obtain ⟨x, hx⟩ : ∃ x, x = i.dir[k] := ⟨_, rfl⟩
              rw [← hx] at hc hmem hsucc
              have hk0 : (0 : Int) ≤ k ∧ (k : Int) < 8 := by omega
              by_cases h5 : 65535 < x
              · have h5' : (x : Int) > 65535 := by omega
                have hC1 : C = 1 := by rw [HC.out]; exact chk_one (.inr (.inr (.inr (.inr ⟨x, hmem, h5⟩))))
                have Hno := Lib.hid hno
                have Hx := Lib.hid hx
                have Hsucc := Lib.hid hsucc
                have HC1 := Lib.hid hC1
                have Hmem := Lib.hid hmem
                clear hno hx hsucc hC1 hmem
                go_wp2_with fail
                go_ret
                exact ⟨by rw [HC1.out]; rfl, Hk0.out⟩
              · have h5' : ¬ (x : Int) > 65535 := by omega
                have hno2 : ∀ y ∈ i.dir.take (k + 1), ¬ 65535 < y := by
                  rw [hsucc]
                  intro y hy
                  rcases List.mem_append.1 hy with hy | hy
                  · exact hno y hy
                  · rw [List.mem_singleton.1 hy]; exact h5
                have Hno := Lib.hid hno
                have Hx := Lib.hid hx
                have Hsucc := Lib.hid hsucc
                have Hno2 := Lib.hid hno2
                have Hmem := Lib.hid hmem
                clear hno hx hsucc hno2 hmem
                go_wp2_with fail
                go_roundw
                case rel => exact ⟨k + 1, by omega, by go_num, Hno2.out⟩
                case measure => simp [intOf]; omega
            · obtain rfl : k = 8 := by omega
              have hC0 : C = 0 := by rw [HC.out]; exact chk_zero h1 h2 h3 h4 (by rw [show i.dir.take 8 = i.dir from rfl] at hno; exact hno)
              have HC0 := Lib.hid hC0
              have Hno := Lib.hid hno
              clear hC0 hno
              go_wp2_with fail
              go_ret
              exact ⟨by rw [HC0.out]; rfl, Hk0.out⟩
end Go.Proofs.Ytblmbchjafffbaa
