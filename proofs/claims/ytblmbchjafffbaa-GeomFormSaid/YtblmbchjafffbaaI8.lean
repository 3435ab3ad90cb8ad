/-
  inode: law 11's known.
-/
import Derived.Test.YtblmbchjafffbaaI7
namespace Go.Proofs.Ytblmbchjafffbaa
open Go.RowKit

def YesI (w : World) : Ending → World → Prop := fun e w' => e = .returned (.bool true) ∧ Keeps nowhere w w'

def i0 : Ino := ⟨420, 3, 100, 1, 0, 0, 0, 0, 0, 0, 0, 5, 9, 0⟩
theorem i0_ok : i0.ok := by simp [Ino.ok, i0]
theorem i0_chk : chkI i0 = 0 := by decide
theorem i0_val : i0.val = .agg #[.int .u32 420, .int .u32 3, .int .u32 100, .int .u16 1, .int .u32 0, .int .u32 0, .int .u32 0, .int .u32 0, .int .u32 0, .int .u32 0, .int .u32 0, .int .u32 5, .int .u32 9, .int .u32 0] := rfl

set_option maxHeartbeats 3200000 in
set_option maxRecDepth 20000 in
theorem known11 (w : World) : Calls Try.prog 24 #[] w (YesI w) := by
  obtain ⟨w1, hw1⟩ : ∃ w1, w1 = w.alloc (.cells #[.int .u32 420, .int .u32 3, .int .u32 100, .int .u16 1, .int .u32 0, .int .u32 0, .int .u32 0, .int .u32 0, .int .u32 0, .int .u32 0, .int .u32 0, .int .u32 5, .int .u32 9, .int .u32 0] 48) := ⟨_, rfl⟩
  have hk1 : Keeps nowhere w w1 := by rw [hw1]; exact (Keeps.refl _ _).alloc _
  have hb1 : Blk w1 w.heap.size 48 #[.int .u32 420, .int .u32 3, .int .u32 100, .int .u16 1, .int .u32 0, .int .u32 0, .int .u32 0, .int .u32 0, .int .u32 0, .int .u32 0, .int .u32 0, .int .u32 5, .int .u32 9, .int .u32 0] := by rw [hw1]; exact Blk.new _ _ _
  have hen := iencode i0 i0_ok w1
  rw [i0_val] at hen
  have hE : encE i0 = encB i0 := by rw [encE, if_pos i0_chk]
  have heq : ∀ w, (binOp .eql 48 (.agg #[.int .u32 420, .int .u32 3, .int .u32 100, .int .u16 1, .int .u32 0, .int .u32 0, .int .u32 0, .int .u32 0, .int .u32 0, .int .u32 0, .int .u32 0, .int .u32 5, .int .u32 9, .int .u32 0]) (.agg #[.int .u32 420, .int .u32 3, .int .u32 100, .int .u16 1, .int .u32 0, .int .u32 0, .int .u32 0, .int .u32 0, .int .u32 0, .int .u32 0, .int .u32 0, .int .u32 5, .int .u32 9, .int .u32 0])).run Try.prog w = .ok (.bool true) w := fun w => by
    have h := eql_run i0 i0 w
    rw [(eqI_iff i0 i0).2 rfl, i0_val] at h
    exact h
  have h8 : ∀ w, (Op.equalIn 9999 46 (.agg #[.int .u32 0, .int .u32 0, .int .u32 0, .int .u32 0, .int .u32 0, .int .u32 0, .int .u32 0, .int .u32 5]) (.agg #[.int .u32 0, .int .u32 0, .int .u32 0, .int .u32 0, .int .u32 0, .int .u32 0, .int .u32 0, .int .u32 5])).run Try.prog w = .ok true w := fun w =>
    eql_words w 9997 46 36 8 Try.underlying46 Try.underlying36 (fun w => by kernel_rfl) i0.dir i0.dir rfl rfl
  have Hw1 := Lib.hid hw1
  have Hk1 := Lib.hid hk1
  have Hb1 := Lib.hid hb1
  have Hen := Lib.hid hen
  have HE := Lib.hid hE
  clear hw1 hk1 hb1 hen hE
  go_enter Try.func24, Try.ntmps24
  go_wp2_with fail
  rw [← Hw1.out]
  refine Hen.out.mono ?_
  rintro e w2 ⟨v2, g2, rfl, hr2, hab2, hk2⟩
  rw [i0_chk]
  rw [HE.out] at hr2
  obtain ⟨A2, c2', rfl, -⟩ := hr2.form
  rw [List.length_map, encB_len] at hr2 ⊢
  have hkw2 := Hk1.out.more hk2
  have hb2 := Hb1.out.keep hk2 (fun h => h)
  have Hr2 := Lib.hid hr2
  have Hab2 := Lib.hid hab2
  have Hk2 := Lib.hid hk2
  have Hkw2 := Lib.hid hkw2
  have Hb2 := Lib.hid hb2
  clear hr2 hab2 hk2 hkw2 hb2
  go_wp2_with fail
  refine (idecode _ _ (encB i0) _ Hr2.out (by rw [encB_len]; omega)).mono ?_
  rintro e w3 ⟨rfl, hk3⟩
  rw [(dec_enc i0 i0_ok i0_chk).1, (dec_enc i0 i0_ok i0_chk).2, i0_val]
  have hkw3 := Hkw2.out.more hk3
  have hb3 := Hb2.out.keep hk3 (fun h => h)
  have Hk3 := Lib.hid hk3
  have Hkw3 := Lib.hid hkw3
  have Hb3 := Lib.hid hb3
  clear hk3 hkw3 hb3
  go_wp2_with (at_make; refine wpList_make_bytes _ rfl _ _ rfl 63 63 rfl rfl rfl (by omega) ?_)
  intro w5 hown5 hk5
  have hx4 := Blk.new w3 48 #[.int .u32 420, .int .u32 3, .int .u32 100, .int .u16 1, .int .u32 0, .int .u32 0, .int .u32 0, .int .u32 0, .int .u32 0, .int .u32 0, .int .u32 0, .int .u32 5, .int .u32 9, .int .u32 0]
  have hx5 := hx4.keep hk5 (fun h => h)
  have hb5 := (Hb3.out.alloc (.cells #[.int .u32 420, .int .u32 3, .int .u32 100, .int .u16 1, .int .u32 0, .int .u32 0, .int .u32 0, .int .u32 0, .int .u32 0, .int .u32 0, .int .u32 0, .int .u32 5, .int .u32 9, .int .u32 0] 48)).keep hk5 (fun h => h)
  have hkw5 := (Hkw3.out.alloc (.cells #[.int .u32 420, .int .u32 3, .int .u32 100, .int .u16 1, .int .u32 0, .int .u32 0, .int .u32 0, .int .u32 0, .int .u32 0, .int .u32 0, .int .u32 0, .int .u32 5, .int .u32 9, .int .u32 0] 48)).more hk5
  have Hown5 := Lib.hid hown5
  have Hk5 := Lib.hid hk5
  have Hx4 := Lib.hid hx4
  have Hx5 := Lib.hid hx5
  have Hb5 := Lib.hid hb5
  have Hkw5 := Lib.hid hkw5
  clear hown5 hk5 hx4 hx5 hb5 hkw5
  go_wp2_with fail
  refine (idecode _ _ (zeros 63) _ Hown5.out.rd (by simp [zeros])).mono ?_
  rintro e w6 ⟨rfl, hk6⟩
  rw [(dec_len (zeros 63) (by simp [zeros])).1, (dec_len (zeros 63) (by simp [zeros])).2, show zeroI.val = .agg #[.int .u32 0, .int .u32 0, .int .u32 0, .int .u16 0, .int .u32 0, .int .u32 0, .int .u32 0, .int .u32 0, .int .u32 0, .int .u32 0, .int .u32 0, .int .u32 0, .int .u32 0, .int .u32 0] from rfl]
  have hb7 := (Hb5.out.keep hk6 (fun h => h)).alloc (.cells #[.int .u32 0, .int .u32 0, .int .u32 0, .int .u16 0, .int .u32 0, .int .u32 0, .int .u32 0, .int .u32 0, .int .u32 0, .int .u32 0, .int .u32 0, .int .u32 0, .int .u32 0, .int .u32 0] 48)
  have hx7 := (Hx5.out.keep hk6 (fun h => h)).alloc (.cells #[.int .u32 0, .int .u32 0, .int .u32 0, .int .u16 0, .int .u32 0, .int .u32 0, .int .u32 0, .int .u32 0, .int .u32 0, .int .u32 0, .int .u32 0, .int .u32 0, .int .u32 0, .int .u32 0] 48)
  have hkw7 := (Hkw5.out.more hk6).alloc (.cells #[.int .u32 0, .int .u32 0, .int .u32 0, .int .u16 0, .int .u32 0, .int .u32 0, .int .u32 0, .int .u32 0, .int .u32 0, .int .u32 0, .int .u32 0, .int .u32 0, .int .u32 0, .int .u32 0] 48)
  have c0 : (w6.alloc (.cells #[.int .u32 0, .int .u32 0, .int .u32 0, .int .u16 0, .int .u32 0, .int .u32 0, .int .u32 0, .int .u32 0, .int .u32 0, .int .u32 0, .int .u32 0, .int .u32 0, .int .u32 0, .int .u32 0] 48)).cell? ⟨w.heap.size, 0, none⟩ = some (.int .u32 420) := hb7.cell 0
  have x0 : (w6.alloc (.cells #[.int .u32 0, .int .u32 0, .int .u32 0, .int .u16 0, .int .u32 0, .int .u32 0, .int .u32 0, .int .u32 0, .int .u32 0, .int .u32 0, .int .u32 0, .int .u32 0, .int .u32 0, .int .u32 0] 48)).cell? ⟨w3.heap.size, 0, none⟩ = some (.int .u32 420) := hx7.cell 0
  have c1 : (w6.alloc (.cells #[.int .u32 0, .int .u32 0, .int .u32 0, .int .u16 0, .int .u32 0, .int .u32 0, .int .u32 0, .int .u32 0, .int .u32 0, .int .u32 0, .int .u32 0, .int .u32 0, .int .u32 0, .int .u32 0] 48)).cell? ⟨w.heap.size, 1, none⟩ = some (.int .u32 3) := hb7.cell 1
  have x1 : (w6.alloc (.cells #[.int .u32 0, .int .u32 0, .int .u32 0, .int .u16 0, .int .u32 0, .int .u32 0, .int .u32 0, .int .u32 0, .int .u32 0, .int .u32 0, .int .u32 0, .int .u32 0, .int .u32 0, .int .u32 0] 48)).cell? ⟨w3.heap.size, 1, none⟩ = some (.int .u32 3) := hx7.cell 1
  have c2 : (w6.alloc (.cells #[.int .u32 0, .int .u32 0, .int .u32 0, .int .u16 0, .int .u32 0, .int .u32 0, .int .u32 0, .int .u32 0, .int .u32 0, .int .u32 0, .int .u32 0, .int .u32 0, .int .u32 0, .int .u32 0] 48)).cell? ⟨w.heap.size, 2, none⟩ = some (.int .u32 100) := hb7.cell 2
  have x2 : (w6.alloc (.cells #[.int .u32 0, .int .u32 0, .int .u32 0, .int .u16 0, .int .u32 0, .int .u32 0, .int .u32 0, .int .u32 0, .int .u32 0, .int .u32 0, .int .u32 0, .int .u32 0, .int .u32 0, .int .u32 0] 48)).cell? ⟨w3.heap.size, 2, none⟩ = some (.int .u32 100) := hx7.cell 2
  have c3 : (w6.alloc (.cells #[.int .u32 0, .int .u32 0, .int .u32 0, .int .u16 0, .int .u32 0, .int .u32 0, .int .u32 0, .int .u32 0, .int .u32 0, .int .u32 0, .int .u32 0, .int .u32 0, .int .u32 0, .int .u32 0] 48)).cell? ⟨w.heap.size, 3, none⟩ = some (.int .u16 1) := hb7.cell 3
  have x3 : (w6.alloc (.cells #[.int .u32 0, .int .u32 0, .int .u32 0, .int .u16 0, .int .u32 0, .int .u32 0, .int .u32 0, .int .u32 0, .int .u32 0, .int .u32 0, .int .u32 0, .int .u32 0, .int .u32 0, .int .u32 0] 48)).cell? ⟨w3.heap.size, 3, none⟩ = some (.int .u16 1) := hx7.cell 3
  have c4 : (w6.alloc (.cells #[.int .u32 0, .int .u32 0, .int .u32 0, .int .u16 0, .int .u32 0, .int .u32 0, .int .u32 0, .int .u32 0, .int .u32 0, .int .u32 0, .int .u32 0, .int .u32 0, .int .u32 0, .int .u32 0] 48)).cell? ⟨w.heap.size, 4, none⟩ = some (.int .u32 0) := hb7.cell 4
  have x4 : (w6.alloc (.cells #[.int .u32 0, .int .u32 0, .int .u32 0, .int .u16 0, .int .u32 0, .int .u32 0, .int .u32 0, .int .u32 0, .int .u32 0, .int .u32 0, .int .u32 0, .int .u32 0, .int .u32 0, .int .u32 0] 48)).cell? ⟨w3.heap.size, 4, none⟩ = some (.int .u32 0) := hx7.cell 4
  have c5 : (w6.alloc (.cells #[.int .u32 0, .int .u32 0, .int .u32 0, .int .u16 0, .int .u32 0, .int .u32 0, .int .u32 0, .int .u32 0, .int .u32 0, .int .u32 0, .int .u32 0, .int .u32 0, .int .u32 0, .int .u32 0] 48)).cell? ⟨w.heap.size, 5, none⟩ = some (.int .u32 0) := hb7.cell 5
  have x5 : (w6.alloc (.cells #[.int .u32 0, .int .u32 0, .int .u32 0, .int .u16 0, .int .u32 0, .int .u32 0, .int .u32 0, .int .u32 0, .int .u32 0, .int .u32 0, .int .u32 0, .int .u32 0, .int .u32 0, .int .u32 0] 48)).cell? ⟨w3.heap.size, 5, none⟩ = some (.int .u32 0) := hx7.cell 5
  have c6 : (w6.alloc (.cells #[.int .u32 0, .int .u32 0, .int .u32 0, .int .u16 0, .int .u32 0, .int .u32 0, .int .u32 0, .int .u32 0, .int .u32 0, .int .u32 0, .int .u32 0, .int .u32 0, .int .u32 0, .int .u32 0] 48)).cell? ⟨w.heap.size, 6, none⟩ = some (.int .u32 0) := hb7.cell 6
  have x6 : (w6.alloc (.cells #[.int .u32 0, .int .u32 0, .int .u32 0, .int .u16 0, .int .u32 0, .int .u32 0, .int .u32 0, .int .u32 0, .int .u32 0, .int .u32 0, .int .u32 0, .int .u32 0, .int .u32 0, .int .u32 0] 48)).cell? ⟨w3.heap.size, 6, none⟩ = some (.int .u32 0) := hx7.cell 6
  have c7 : (w6.alloc (.cells #[.int .u32 0, .int .u32 0, .int .u32 0, .int .u16 0, .int .u32 0, .int .u32 0, .int .u32 0, .int .u32 0, .int .u32 0, .int .u32 0, .int .u32 0, .int .u32 0, .int .u32 0, .int .u32 0] 48)).cell? ⟨w.heap.size, 7, none⟩ = some (.int .u32 0) := hb7.cell 7
  have x7 : (w6.alloc (.cells #[.int .u32 0, .int .u32 0, .int .u32 0, .int .u16 0, .int .u32 0, .int .u32 0, .int .u32 0, .int .u32 0, .int .u32 0, .int .u32 0, .int .u32 0, .int .u32 0, .int .u32 0, .int .u32 0] 48)).cell? ⟨w3.heap.size, 7, none⟩ = some (.int .u32 0) := hx7.cell 7
  have c8 : (w6.alloc (.cells #[.int .u32 0, .int .u32 0, .int .u32 0, .int .u16 0, .int .u32 0, .int .u32 0, .int .u32 0, .int .u32 0, .int .u32 0, .int .u32 0, .int .u32 0, .int .u32 0, .int .u32 0, .int .u32 0] 48)).cell? ⟨w.heap.size, 8, none⟩ = some (.int .u32 0) := hb7.cell 8
  have x8 : (w6.alloc (.cells #[.int .u32 0, .int .u32 0, .int .u32 0, .int .u16 0, .int .u32 0, .int .u32 0, .int .u32 0, .int .u32 0, .int .u32 0, .int .u32 0, .int .u32 0, .int .u32 0, .int .u32 0, .int .u32 0] 48)).cell? ⟨w3.heap.size, 8, none⟩ = some (.int .u32 0) := hx7.cell 8
  have c9 : (w6.alloc (.cells #[.int .u32 0, .int .u32 0, .int .u32 0, .int .u16 0, .int .u32 0, .int .u32 0, .int .u32 0, .int .u32 0, .int .u32 0, .int .u32 0, .int .u32 0, .int .u32 0, .int .u32 0, .int .u32 0] 48)).cell? ⟨w.heap.size, 9, none⟩ = some (.int .u32 0) := hb7.cell 9
  have x9 : (w6.alloc (.cells #[.int .u32 0, .int .u32 0, .int .u32 0, .int .u16 0, .int .u32 0, .int .u32 0, .int .u32 0, .int .u32 0, .int .u32 0, .int .u32 0, .int .u32 0, .int .u32 0, .int .u32 0, .int .u32 0] 48)).cell? ⟨w3.heap.size, 9, none⟩ = some (.int .u32 0) := hx7.cell 9
  have c10 : (w6.alloc (.cells #[.int .u32 0, .int .u32 0, .int .u32 0, .int .u16 0, .int .u32 0, .int .u32 0, .int .u32 0, .int .u32 0, .int .u32 0, .int .u32 0, .int .u32 0, .int .u32 0, .int .u32 0, .int .u32 0] 48)).cell? ⟨w.heap.size, 10, none⟩ = some (.int .u32 0) := hb7.cell 10
  have x10 : (w6.alloc (.cells #[.int .u32 0, .int .u32 0, .int .u32 0, .int .u16 0, .int .u32 0, .int .u32 0, .int .u32 0, .int .u32 0, .int .u32 0, .int .u32 0, .int .u32 0, .int .u32 0, .int .u32 0, .int .u32 0] 48)).cell? ⟨w3.heap.size, 10, none⟩ = some (.int .u32 0) := hx7.cell 10
  have c11 : (w6.alloc (.cells #[.int .u32 0, .int .u32 0, .int .u32 0, .int .u16 0, .int .u32 0, .int .u32 0, .int .u32 0, .int .u32 0, .int .u32 0, .int .u32 0, .int .u32 0, .int .u32 0, .int .u32 0, .int .u32 0] 48)).cell? ⟨w.heap.size, 11, none⟩ = some (.int .u32 5) := hb7.cell 11
  have x11 : (w6.alloc (.cells #[.int .u32 0, .int .u32 0, .int .u32 0, .int .u16 0, .int .u32 0, .int .u32 0, .int .u32 0, .int .u32 0, .int .u32 0, .int .u32 0, .int .u32 0, .int .u32 0, .int .u32 0, .int .u32 0] 48)).cell? ⟨w3.heap.size, 11, none⟩ = some (.int .u32 5) := hx7.cell 11
  have c12 : (w6.alloc (.cells #[.int .u32 0, .int .u32 0, .int .u32 0, .int .u16 0, .int .u32 0, .int .u32 0, .int .u32 0, .int .u32 0, .int .u32 0, .int .u32 0, .int .u32 0, .int .u32 0, .int .u32 0, .int .u32 0] 48)).cell? ⟨w.heap.size, 12, none⟩ = some (.int .u32 9) := hb7.cell 12
  have x12 : (w6.alloc (.cells #[.int .u32 0, .int .u32 0, .int .u32 0, .int .u16 0, .int .u32 0, .int .u32 0, .int .u32 0, .int .u32 0, .int .u32 0, .int .u32 0, .int .u32 0, .int .u32 0, .int .u32 0, .int .u32 0] 48)).cell? ⟨w3.heap.size, 12, none⟩ = some (.int .u32 9) := hx7.cell 12
  have c13 : (w6.alloc (.cells #[.int .u32 0, .int .u32 0, .int .u32 0, .int .u16 0, .int .u32 0, .int .u32 0, .int .u32 0, .int .u32 0, .int .u32 0, .int .u32 0, .int .u32 0, .int .u32 0, .int .u32 0, .int .u32 0] 48)).cell? ⟨w.heap.size, 13, none⟩ = some (.int .u32 0) := hb7.cell 13
  have x13 : (w6.alloc (.cells #[.int .u32 0, .int .u32 0, .int .u32 0, .int .u16 0, .int .u32 0, .int .u32 0, .int .u32 0, .int .u32 0, .int .u32 0, .int .u32 0, .int .u32 0, .int .u32 0, .int .u32 0, .int .u32 0] 48)).cell? ⟨w3.heap.size, 13, none⟩ = some (.int .u32 0) := hx7.cell 13
  obtain ⟨w7, hw7⟩ : ∃ w7, w7 = (w6.alloc (.cells #[.int .u32 0, .int .u32 0, .int .u32 0, .int .u16 0, .int .u32 0, .int .u32 0, .int .u32 0, .int .u32 0, .int .u32 0, .int .u32 0, .int .u32 0, .int .u32 0, .int .u32 0, .int .u32 0] 48)) := ⟨_, rfl⟩
  have hick := icheck i0 w7
  rw [i0_val, i0_chk] at hick
  have hbk1 := iblocksN 100 64 (by omega) w7
  have hbk2 := iblocksN 5 63 (by omega) w7
  rw [show blocksN 100 64 = 2 from by decide] at hbk1
  rw [show blocksN 5 63 = 0 from by decide] at hbk2
  rw [hw7] at hick hbk1 hbk2
  have Hb7 := Lib.hid hb7
  have Hx7 := Lib.hid hx7
  have Hkw7 := Lib.hid hkw7
  have Hk6 := Lib.hid hk6
  have Hick := Lib.hid hick
  have Hbk1 := Lib.hid hbk1
  have Hbk2 := Lib.hid hbk2
  have Hw7 := Lib.hid hw7
  clear hb7 hx7 hkw7 hk6 hick hbk1 hbk2 hw7
  go_wp2_with fail
  refine Hbk1.out.mono ?_
  rintro e w8 ⟨rfl, rfl⟩
  go_wp2_with fail
  refine Hbk2.out.mono ?_
  rintro e w8 ⟨rfl, rfl⟩
  go_wp2_with fail
  refine Hick.out.mono ?_
  rintro e w8 ⟨rfl, hk8⟩
  have Hk8 := Lib.hid hk8
  clear hk8
  go_wp2_with fail
  go_ret
  exact ⟨rfl, Hkw7.out.more Hk8.out⟩
end Go.Proofs.Ytblmbchjafffbaa
