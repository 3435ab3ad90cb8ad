/-
  geom: law 10's check.
-/
import Derived.Test.YtblmbchjafffbaaG2
namespace Go.Proofs.Ytblmbchjafffbaa
open Go.RowKit

set_option maxHeartbeats 3200000 in
set_option maxRecDepth 20000 in
theorem lgcheck (g : Geo) (w : World) : Calls Try.prog 36 #[g.val] w fun e w' => e = .returned (.int .i64 (if g.ok then 0 else 1)) ∧ Keeps nowhere w w' := by
  obtain ⟨w1, hw1⟩ : ∃ w1, w1 = w.alloc (.cells #[.int .i64 g.b, .int .i64 g.n, .int .i64 g.m] 60) := ⟨_, rfl⟩
  have hk0 : Keeps nowhere w w1 := by rw [hw1]; exact (Keeps.refl _ _).alloc _
  have hb1 : Blk w1 w.heap.size 60 #[.int .i64 g.b, .int .i64 g.n, .int .i64 g.m] := by rw [hw1]; exact Blk.new _ _ _
  obtain ⟨C, hC⟩ : ∃ C : Int, C = if g.ok then 0 else 1 := ⟨_, rfl⟩
  rw [← hC]
  unfold Geo.val
  have c0 := hb1.cell 0
  have c1 := hb1.cell 1
  have c2 := hb1.cell 2
  simp at c0 c1 c2
  have Hk0 := Lib.hid hk0
  have HC := Lib.hid hC
  have Hb1 := Lib.hid hb1
  clear hk0 hC hb1
  go_enter Try.func36, Try.ntmps36
  go_wp2_with fail
  rw [← hw1]
  have Hw1 := Lib.hid hw1
  clear hw1
  go_loopw [3, 4] (fun ov kv wr => ∃ (j : Nat) (c : Bool), j ≤ 5 ∧ kv = .int .i64 (64 * 2 ^ j : Nat) ∧ ov = .bool c ∧ (c = true ↔ g.b ∈ gsizes.take j) ∧ wr = w1) (fun _ kv _ => (2048 - intOf kv).toNat)
  case atStart => exact ⟨0, false, by omega, by go_num, rfl, by simp, rfl⟩
  case round =>
    obtain ⟨j, c, hj, rfl, rfl, hm, rfl⟩ := hrel
    by_cases hlt : j < 5
    · obtain rfl | rfl | rfl | rfl | rfl : j = 0 ∨ j = 1 ∨ j = 2 ∨ j = 3 ∨ j = 4 := by omega
      all_goals clear hlt hj
      · rw [show ((64 * 2 ^ 0 : Nat) : Int) = 64 from rfl]
        cases c with
        | true =>
          have hm' : (true = true ↔ g.b ∈ gsizes.take 1) := ⟨fun _ => by have := hm.1 rfl; simp [gsizes] at this ⊢ <;> omega, fun _ => rfl⟩
          have Hm := Lib.hid hm
          have Hm' := Lib.hid hm'
          clear hm hm'
          go_wp2_with fail
          go_roundw
          case rel => exact ⟨1, true, by omega, by go_num, rfl, Hm'.out, trivial⟩
          case measure => simp [intOf]
        | false =>
          by_cases hb : g.b = 64
          · have hm' : (true = true ↔ g.b ∈ gsizes.take 1) := ⟨fun _ => by simp [gsizes]; omega, fun _ => rfl⟩
            have hbe : (g.b == 64) = true := by simp [hb]
            have Hm := Lib.hid hm
            have Hm' := Lib.hid hm'
            have Hb := Lib.hid hb
            clear hm hm' hb
            go_wp2_with fail
            go_roundw
            case rel => exact ⟨1, true, by omega, by go_num, rfl, Hm'.out, trivial⟩
            case measure => simp [intOf]
          · have hm' : (false = true ↔ g.b ∈ gsizes.take 1) := ⟨fun h => by simp at h, fun h => by
              apply hm.2
              simp [gsizes] at h ⊢
              try omega⟩
            have hbe : (g.b == 64) = false := by simp [hb]
            have Hm := Lib.hid hm
            have Hm' := Lib.hid hm'
            have Hb := Lib.hid hb
            clear hm hm' hb
            go_wp2_with fail
            go_roundw
            case rel => exact ⟨1, false, by omega, by go_num, rfl, Hm'.out, trivial⟩
            case measure => simp [intOf]
      · rw [show ((64 * 2 ^ 1 : Nat) : Int) = 128 from rfl]
        cases c with
        | true =>
          have hm' : (true = true ↔ g.b ∈ gsizes.take 2) := ⟨fun _ => by have := hm.1 rfl; simp [gsizes] at this ⊢ <;> omega, fun _ => rfl⟩
          have Hm := Lib.hid hm
          have Hm' := Lib.hid hm'
          clear hm hm'
          go_wp2_with fail
          go_roundw
          case rel => exact ⟨2, true, by omega, by go_num, rfl, Hm'.out, trivial⟩
          case measure => simp [intOf]
        | false =>
          by_cases hb : g.b = 128
          · have hm' : (true = true ↔ g.b ∈ gsizes.take 2) := ⟨fun _ => by simp [gsizes]; omega, fun _ => rfl⟩
            have hbe : (g.b == 128) = true := by simp [hb]
            have Hm := Lib.hid hm
            have Hm' := Lib.hid hm'
            have Hb := Lib.hid hb
            clear hm hm' hb
            go_wp2_with fail
            go_roundw
            case rel => exact ⟨2, true, by omega, by go_num, rfl, Hm'.out, trivial⟩
            case measure => simp [intOf]
          · have hm' : (false = true ↔ g.b ∈ gsizes.take 2) := ⟨fun h => by simp at h, fun h => by
              apply hm.2
              simp [gsizes] at h ⊢
              try omega⟩
            have hbe : (g.b == 128) = false := by simp [hb]
            have Hm := Lib.hid hm
            have Hm' := Lib.hid hm'
            have Hb := Lib.hid hb
            clear hm hm' hb
            go_wp2_with fail
            go_roundw
            case rel => exact ⟨2, false, by omega, by go_num, rfl, Hm'.out, trivial⟩
            case measure => simp [intOf]
      · rw [show ((64 * 2 ^ 2 : Nat) : Int) = 256 from rfl]
        cases c with
        | true =>
          have hm' : (true = true ↔ g.b ∈ gsizes.take 3) := ⟨fun _ => by have := hm.1 rfl; simp [gsizes] at this ⊢ <;> omega, fun _ => rfl⟩
          have Hm := Lib.hid hm
          have Hm' := Lib.hid hm'
          clear hm hm'
          go_wp2_with fail
          go_roundw
          case rel => exact ⟨3, true, by omega, by go_num, rfl, Hm'.out, trivial⟩
          case measure => simp [intOf]
        | false =>
          by_cases hb : g.b = 256
          · have hm' : (true = true ↔ g.b ∈ gsizes.take 3) := ⟨fun _ => by simp [gsizes]; omega, fun _ => rfl⟩
            have hbe : (g.b == 256) = true := by simp [hb]
            have Hm := Lib.hid hm
            have Hm' := Lib.hid hm'
            have Hb := Lib.hid hb
            clear hm hm' hb
            go_wp2_with fail
            go_roundw
            case rel => exact ⟨3, true, by omega, by go_num, rfl, Hm'.out, trivial⟩
            case measure => simp [intOf]
          · have hm' : (false = true ↔ g.b ∈ gsizes.take 3) := ⟨fun h => by simp at h, fun h => by
              apply hm.2
              simp [gsizes] at h ⊢
              try omega⟩
            have hbe : (g.b == 256) = false := by simp [hb]
            have Hm := Lib.hid hm
            have Hm' := Lib.hid hm'
            have Hb := Lib.hid hb
            clear hm hm' hb
            go_wp2_with fail
            go_roundw
            case rel => exact ⟨3, false, by omega, by go_num, rfl, Hm'.out, trivial⟩
            case measure => simp [intOf]
      · rw [show ((64 * 2 ^ 3 : Nat) : Int) = 512 from rfl]
        cases c with
        | true =>
          have hm' : (true = true ↔ g.b ∈ gsizes.take 4) := ⟨fun _ => by have := hm.1 rfl; simp [gsizes] at this ⊢ <;> omega, fun _ => rfl⟩
          have Hm := Lib.hid hm
          have Hm' := Lib.hid hm'
          clear hm hm'
          go_wp2_with fail
          go_roundw
          case rel => exact ⟨4, true, by omega, by go_num, rfl, Hm'.out, trivial⟩
          case measure => simp [intOf]
        | false =>
          by_cases hb : g.b = 512
          · have hm' : (true = true ↔ g.b ∈ gsizes.take 4) := ⟨fun _ => by simp [gsizes]; omega, fun _ => rfl⟩
            have hbe : (g.b == 512) = true := by simp [hb]
            have Hm := Lib.hid hm
            have Hm' := Lib.hid hm'
            have Hb := Lib.hid hb
            clear hm hm' hb
            go_wp2_with fail
            go_roundw
            case rel => exact ⟨4, true, by omega, by go_num, rfl, Hm'.out, trivial⟩
            case measure => simp [intOf]
          · have hm' : (false = true ↔ g.b ∈ gsizes.take 4) := ⟨fun h => by simp at h, fun h => by
              apply hm.2
              simp [gsizes] at h ⊢
              try omega⟩
            have hbe : (g.b == 512) = false := by simp [hb]
            have Hm := Lib.hid hm
            have Hm' := Lib.hid hm'
            have Hb := Lib.hid hb
            clear hm hm' hb
            go_wp2_with fail
            go_roundw
            case rel => exact ⟨4, false, by omega, by go_num, rfl, Hm'.out, trivial⟩
            case measure => simp [intOf]
      · rw [show ((64 * 2 ^ 4 : Nat) : Int) = 1024 from rfl]
        cases c with
        | true =>
          have hm' : (true = true ↔ g.b ∈ gsizes.take 5) := ⟨fun _ => by have := hm.1 rfl; simp [gsizes] at this ⊢ <;> omega, fun _ => rfl⟩
          have Hm := Lib.hid hm
          have Hm' := Lib.hid hm'
          clear hm hm'
          go_wp2_with fail
          go_roundw
          case rel => exact ⟨5, true, by omega, by go_num, rfl, Hm'.out, trivial⟩
          case measure => simp [intOf]
        | false =>
          by_cases hb : g.b = 1024
          · have hm' : (true = true ↔ g.b ∈ gsizes.take 5) := ⟨fun _ => by simp [gsizes]; omega, fun _ => rfl⟩
            have hbe : (g.b == 1024) = true := by simp [hb]
            have Hm := Lib.hid hm
            have Hm' := Lib.hid hm'
            have Hb := Lib.hid hb
            clear hm hm' hb
            go_wp2_with fail
            go_roundw
            case rel => exact ⟨5, true, by omega, by go_num, rfl, Hm'.out, trivial⟩
            case measure => simp [intOf]
          · have hm' : (false = true ↔ g.b ∈ gsizes.take 5) := ⟨fun h => by simp at h, fun h => by
              apply hm.2
              simp [gsizes] at h ⊢
              try omega⟩
            have hbe : (g.b == 1024) = false := by simp [hb]
            have Hm := Lib.hid hm
            have Hm' := Lib.hid hm'
            have Hb := Lib.hid hb
            clear hm hm' hb
            go_wp2_with fail
            go_roundw
            case rel => exact ⟨5, false, by omega, by go_num, rfl, Hm'.out, trivial⟩
            case measure => simp [intOf]
    · obtain rfl : j = 5 := by omega
      rw [show ((64 * 2 ^ 5 : Nat) : Int) = 2048 from rfl]
      cases c with
      | true =>
        have hgb : g.b ∈ gsizes := hm.1 rfl
        by_cases h2 : g.n < 8
        · have hC1 : C = 1 := by rw [HC.out]; exact if_neg fun h : g.ok => by obtain ⟨_, q1, q2, q3, q4⟩ := h; omega
          have HC1 := Lib.hid hC1
          clear hC1
          go_wp2_with fail
          go_ret
          exact ⟨by rw [HC1.out]; rfl, Hk0.out⟩
        · by_cases h3 : g.n > 65536
          · have hC1 : C = 1 := by rw [HC.out]; exact if_neg fun h : g.ok => by obtain ⟨_, q1, q2, q3, q4⟩ := h; omega
            have HC1 := Lib.hid hC1
            clear hC1
            go_wp2_with fail
            go_ret
            exact ⟨by rw [HC1.out]; rfl, Hk0.out⟩
          · by_cases h4 : g.m < 1
            · have hC1 : C = 1 := by rw [HC.out]; exact if_neg fun h : g.ok => by obtain ⟨_, q1, q2, q3, q4⟩ := h; omega
              have HC1 := Lib.hid hC1
              clear hC1
              go_wp2_with fail
              go_ret
              exact ⟨by rw [HC1.out]; rfl, Hk0.out⟩
            · by_cases h5 : g.m > 4096
              · have hC1 : C = 1 := by rw [HC.out]; exact if_neg fun h : g.ok => by obtain ⟨_, q1, q2, q3, q4⟩ := h; omega
                have HC1 := Lib.hid hC1
                clear hC1
                go_wp2_with fail
                go_ret
                exact ⟨by rw [HC1.out]; rfl, Hk0.out⟩
              · have hC1 : C = 0 := by rw [HC.out]; exact if_pos ⟨hgb, by omega, by omega, by omega, by omega⟩
                have HC1 := Lib.hid hC1
                clear hC1
                go_wp2_with fail
                go_ret
                exact ⟨by rw [HC1.out]; rfl, Hk0.out⟩
      | false =>
        have hC1 : C = 1 := by rw [HC.out]; exact if_neg fun h : g.ok => by have := hm.2 h.1; simp at this
        have Hm := Lib.hid hm
        have HC1 := Lib.hid hC1
        clear hm hC1
        go_wp2_with fail
        go_ret
        exact ⟨by rw [HC1.out]; rfl, Hk0.out⟩
end Go.Proofs.Ytblmbchjafffbaa
