/-
  inode: Check, Encode.
-/
import Derived.Test.YtblmbchjafffbaaI1
import Derived.Test.YtblmbchjafffbaaZeros
namespace Go.Proofs.Ytblmbchjafffbaa
open Go.RowKit

def chkI (i : Ino) : Int := if 1073741824 < i.s ∨ 1000 < i.l ∨ 65535 < maxL i.blocks then 1 else 0

set_option maxHeartbeats 1600000 in
set_option maxRecDepth 20000 in
theorem icheck (i : Ino) (w : World) : Calls Try.prog 27 #[i.val] w fun e w' => e = .returned (.int .i64 (chkI i)) ∧ Keeps nowhere w w' := by
  obtain ⟨w1, hw1⟩ : ∃ w1, w1 = w.alloc (.cells i.cells 48) := ⟨_, rfl⟩
  have hk0 : Keeps nowhere w w1 := by rw [hw1]; exact (Keeps.refl _ _).alloc _
  have hib := iblocks i w1
  have hbl : 0 < i.blocks.length := by simp [Ino.blocks]
  have hbl2 : i.blocks.length ≤ 1099511627776 := by simp [Ino.blocks]
  obtain ⟨M, hM⟩ : ∃ M, M = maxL i.blocks := ⟨_, rfl⟩
  have hC : chkI i = if 1073741824 < i.s ∨ 1000 < i.l ∨ 65535 < M then 1 else 0 := by rw [hM]; rfl
  unfold Ino.val at hib ⊢
  unfold Ino.cells at hw1 hib ⊢
  have Hk0 := Lib.hid hk0
  have Hw1 := Lib.hid hw1
  have Hib := Lib.hid hib
  have HC := Lib.hid hC
  have HM := Lib.hid hM
  clear hk0 hw1 hib hC hM
  by_cases h1 : 1073741824 < i.s
  · have h1' : (i.s : Int) > 1073741824 := by omega
    go_enter Try.func27, Try.ntmps27
    go_wp2_with fail
    go_ret
    exact ⟨by rw [HC.out, if_pos (.inl h1)]; rfl, by rw [← Hw1.out]; exact Hk0.out⟩
  · have h1' : ¬ (i.s : Int) > 1073741824 := by omega
    by_cases h2 : 1000 < i.l
    · have h2' : (i.l : Int) > 1000 := by omega
      go_enter Try.func27, Try.ntmps27
      go_wp2_with fail
      go_ret
      exact ⟨by rw [HC.out, if_pos (.inr (.inl h2))]; rfl, by rw [← Hw1.out]; exact Hk0.out⟩
    · have h2' : ¬ (i.l : Int) > 1000 := by omega
      go_enter Try.func27, Try.ntmps27
      go_wp2_with fail
      rw [← Hw1.out]
      refine Hib.out.mono ?_
      rintro e w2 ⟨v2, rfl, hown2, hab2, hk2⟩
      have Hown2 := Lib.hid hown2
      have Hab2 := Lib.hid hab2
      have Hk2 := Lib.hid hk2
      clear hown2 hab2 hk2
      go_wp2_with fail
      refine (max_w v2 _ i.blocks _ Hown2.out.rd hbl hbl2).mono ?_
      rintro e w3 ⟨rfl, rfl⟩
      rw [← HM.out]
      by_cases h3 : 65535 < M
      · have h3' : (M : Int) > 65535 := by omega
        go_wp2_with fail
        go_ret
        exact ⟨by rw [HC.out, if_pos (.inr (.inr h3))]; rfl, Hk0.out.more Hk2.out⟩
      · have h3' : ¬ (M : Int) > 65535 := by omega
        go_wp2_with fail
        go_ret
        exact ⟨by rw [HC.out, if_neg (by omega)]; rfl, Hk0.out.more Hk2.out⟩
end Go.Proofs.Ytblmbchjafffbaa
