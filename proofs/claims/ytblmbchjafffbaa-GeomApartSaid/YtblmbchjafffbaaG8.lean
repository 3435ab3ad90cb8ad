/-
  geom: law 10's known.
-/
import Derived.Test.YtblmbchjafffbaaG7
namespace Go.Proofs.Ytblmbchjafffbaa
open Go.RowKit

def YesG (w : World) : Ending → World → Prop := fun e w' => e = .returned (.bool true) ∧ Keeps nowhere w w'

def g0 : Geo := ⟨64, 100, 10⟩
theorem g0_ok : g0.ok := by decide
theorem g0_chk : chkG g0 = 0 := by decide
theorem g0_val : g0.val = .agg #[.int .i64 64, .int .i64 100, .int .i64 10] := rfl

set_option maxHeartbeats 3200000 in
set_option maxRecDepth 20000 in
theorem known10 (w : World) : Calls Try.prog 32 #[] w (YesG w) := by
  obtain ⟨w1, hw1⟩ : ∃ w1, w1 = w.alloc (.cells #[.int .i64 64, .int .i64 100, .int .i64 10] 60) := ⟨_, rfl⟩
  have hk1 : Keeps nowhere w w1 := by rw [hw1]; exact (Keeps.refl _ _).alloc _
  have hb1 : Blk w1 w.heap.size 60 #[.int .i64 64, .int .i64 100, .int .i64 10] := by rw [hw1]; exact Blk.new _ _ _
  have hgp := gparts g0 w1
  rw [partsV, if_pos g0_ok, g0_val, show partsC g0.x g0.y g0.z = #[.int .i64 0, .int .i64 1, .int .i64 1, .int .i64 1, .int .i64 2, .int .i64 1, .int .i64 3, .int .i64 10] from by rw [show g0.x = 1 from by decide, show g0.y = 1 from by decide, show g0.z = 10 from by decide]; rfl] at hgp
  have hE : encG g0 = encGB g0 := by rw [encG, if_pos g0_chk]
  have heq : ∀ w, (binOp .eql 60 (.agg #[.int .i64 64, .int .i64 100, .int .i64 10]) (.agg #[.int .i64 64, .int .i64 100, .int .i64 10])).run Try.prog w = .ok (.bool true) w := fun w => by
    have h := geql_run g0 g0 w
    rw [(eqG_iff g0 g0).2 rfl, g0_val] at h
    exact h
  have hp0 : ∀ w, (binOp .eql 70 (.agg #[.int .i64 0, .int .i64 1]) (.agg #[.int .i64 0, .int .i64 1])).run Try.prog w = .ok (.bool true) w := fun _ => by kernel_rfl
  have hp1 : ∀ w, (binOp .eql 70 (.agg #[.int .i64 1, .int .i64 1]) (.agg #[.int .i64 1, .int .i64 1])).run Try.prog w = .ok (.bool true) w := fun _ => by kernel_rfl
  have hp2 : ∀ w, (binOp .eql 70 (.agg #[.int .i64 2, .int .i64 1]) (.agg #[.int .i64 2, .int .i64 1])).run Try.prog w = .ok (.bool true) w := fun _ => by kernel_rfl
  have hp3 : ∀ w, (binOp .eql 70 (.agg #[.int .i64 3, .int .i64 10]) (.agg #[.int .i64 3, .int .i64 10])).run Try.prog w = .ok (.bool true) w := fun _ => by kernel_rfl
  have c0 : w1.cell? ⟨w.heap.size, 0, none⟩ = some (.int .i64 64) := hb1.cell 0
  have c1 : w1.cell? ⟨w.heap.size, 1, none⟩ = some (.int .i64 100) := hb1.cell 1
  have c2 : w1.cell? ⟨w.heap.size, 2, none⟩ = some (.int .i64 10) := hb1.cell 2
  rw [hw1] at c0 c1 c2
  have Hk1 := Lib.hid hk1
  have Hb1 := Lib.hid hb1
  have Hgp := Lib.hid hgp
  have HE := Lib.hid hE
  clear hk1 hb1 hgp hE
  go_enter Try.func32, Try.ntmps32
  go_wp2_with fail
  rw [← hw1]
  clear c0 c1 c2
  refine Hgp.out.mono ?_
  rintro e w2 ⟨rfl, hk2⟩
  obtain ⟨w3, hw3⟩ : ∃ w3, w3 = w2.alloc (.cells #[.int .i64 0, .int .i64 1, .int .i64 1, .int .i64 1, .int .i64 2, .int .i64 1, .int .i64 3, .int .i64 10] 71) := ⟨_, rfl⟩
  have hka : Keeps nowhere w2 w3 := by rw [hw3]; exact (Keeps.refl _ _).alloc _
  have hp3 : Blk w3 w2.heap.size 71 #[.int .i64 0, .int .i64 1, .int .i64 1, .int .i64 1, .int .i64 2, .int .i64 1, .int .i64 3, .int .i64 10] := by rw [hw3]; exact Blk.new _ _ _
  have hb3 := (Hb1.out.keep hk2 (fun h => h)).keep hka (fun h => h)
  have hkw3 := (Hk1.out.more hk2).more hka
  have hin := ginode g0 g0_ok 3 (by decide) (by decide) w3
  rw [g0_val, show g0.at0 3 = 5 from by decide, show g0.at1 3 = 0 from by decide] at hin
  have c0 : w3.cell? ⟨w.heap.size, 0, none⟩ = some (.int .i64 64) := hb3.cell 0
  have c1 : w3.cell? ⟨w.heap.size, 1, none⟩ = some (.int .i64 100) := hb3.cell 1
  have c2 : w3.cell? ⟨w.heap.size, 2, none⟩ = some (.int .i64 10) := hb3.cell 2
  have Hw1 := Lib.hid hw1
  have Hk2 := Lib.hid hk2
  have Hka := Lib.hid hka
  have Hp3 := Lib.hid hp3
  have Hb3 := Lib.hid hb3
  have Hkw3 := Lib.hid hkw3
  have Hin := Lib.hid hin
  clear hw1 hk2 hka hp3 hb3 hkw3 hin
  rw [hw3] at c0 c1 c2
  go_wp2_with fail
  rw [← hw3]
  clear c0 c1 c2
  refine Hin.out.mono ?_
  rintro e w4 ⟨rfl, hk4⟩
  have hb4 := Hb3.out.keep hk4 (fun h => h)
  have hp4 := Hp3.out.keep hk4 (fun h => h)
  have hkw4 := Hkw3.out.more hk4
  have c0 : w4.cell? ⟨w.heap.size, 0, none⟩ = some (.int .i64 64) := hb4.cell 0
  have c1 : w4.cell? ⟨w.heap.size, 1, none⟩ = some (.int .i64 100) := hb4.cell 1
  have c2 : w4.cell? ⟨w.heap.size, 2, none⟩ = some (.int .i64 10) := hb4.cell 2
  have hen := gencode g0 w4
  rw [g0_val] at hen
  have Hw3 := Lib.hid hw3
  have Hk4 := Lib.hid hk4
  have Hb4 := Lib.hid hb4
  have Hp4 := Lib.hid hp4
  have Hkw4 := Lib.hid hkw4
  have Hen := Lib.hid hen
  clear hw3 hk4 hb4 hp4 hkw4 hen
  go_wp2_with fail
  clear c0 c1 c2
  refine Hen.out.mono ?_
  rintro e w5 ⟨v5, g5, rfl, hr5, hab5, hk5⟩
  rw [g0_chk]
  rw [HE.out] at hr5
  obtain ⟨A5, cc5, rfl, -⟩ := hr5.form
  rw [List.length_map, show (encGB g0).length = 64 from by rw [encGB_len g0 g0_ok]; rfl] at hr5 ⊢
  have hb5 := Hb4.out.keep hk5 (fun h => h)
  have hp5 := Hp4.out.keep hk5 (fun h => h)
  have hkw5 := Hkw4.out.more hk5
  have Hr5 := Lib.hid hr5
  have Hab5 := Lib.hid hab5
  have Hk5 := Lib.hid hk5
  have Hb5 := Lib.hid hb5
  have Hp5 := Lib.hid hp5
  have Hkw5 := Lib.hid hkw5
  clear hr5 hab5 hk5 hb5 hp5 hkw5
  go_wp2_with fail
  refine (gdecode _ _ (encGB g0) _ Hr5.out (by rw [encGB_len g0 g0_ok]; decide)).mono ?_
  rintro e w6 ⟨rfl, hk6⟩
  rw [(decG_enc g0 g0_chk).1, (decG_enc g0 g0_chk).2, g0_val]
  obtain ⟨w7, hw7⟩ : ∃ w7, w7 = w6.alloc (.cells #[.int .i64 64, .int .i64 100, .int .i64 10] 60) := ⟨_, rfl⟩
  have hkb : Keeps nowhere w6 w7 := by rw [hw7]; exact (Keeps.refl _ _).alloc _
  have hx7 : Blk w7 w6.heap.size 60 #[.int .i64 64, .int .i64 100, .int .i64 10] := by rw [hw7]; exact Blk.new _ _ _
  have hb7 := (Hb5.out.keep hk6 (fun h => h)).keep hkb (fun h => h)
  have hp7 := (Hp5.out.keep hk6 (fun h => h)).keep hkb (fun h => h)
  have hkw7 := (Hkw5.out.more hk6).more hkb
  have hck := gcheck g0 w7
  rw [g0_val, g0_chk] at hck
  have c0 : w7.cell? ⟨w.heap.size, 0, none⟩ = some (.int .i64 64) := hb7.cell 0
  have c1 : w7.cell? ⟨w.heap.size, 1, none⟩ = some (.int .i64 100) := hb7.cell 1
  have c2 : w7.cell? ⟨w.heap.size, 2, none⟩ = some (.int .i64 10) := hb7.cell 2
  have Hk6 := Lib.hid hk6
  have Hkb := Lib.hid hkb
  have Hx7 := Lib.hid hx7
  have Hb7 := Lib.hid hb7
  have Hp7 := Lib.hid hp7
  have Hkw7 := Lib.hid hkw7
  have Hck := Lib.hid hck
  clear hk6 hkb hx7 hb7 hp7 hkw7 hck
  rw [hw7] at c0 c1 c2
  go_wp2_with fail
  rw [← hw7]
  clear c0 c1 c2
  refine Hck.out.mono ?_
  rintro e w8 ⟨rfl, hk8⟩
  have hx8 := Hx7.out.keep hk8 (fun h => h)
  have hb8 := Hb7.out.keep hk8 (fun h => h)
  have hp8 := Hp7.out.keep hk8 (fun h => h)
  have hkw8 := Hkw7.out.more hk8
  have c0 : w8.cell? ⟨w.heap.size, 0, none⟩ = some (.int .i64 64) := hb8.cell 0
  have c1 : w8.cell? ⟨w.heap.size, 1, none⟩ = some (.int .i64 100) := hb8.cell 1
  have c2 : w8.cell? ⟨w.heap.size, 2, none⟩ = some (.int .i64 10) := hb8.cell 2
  have p0 : w8.cell? ⟨w2.heap.size, 0, none⟩ = some (.int .i64 0) := hp8.cell 0
  have p1 : w8.cell? ⟨w2.heap.size, 1, none⟩ = some (.int .i64 1) := hp8.cell 1
  have p2 : w8.cell? ⟨w2.heap.size, 2, none⟩ = some (.int .i64 1) := hp8.cell 2
  have p3 : w8.cell? ⟨w2.heap.size, 3, none⟩ = some (.int .i64 1) := hp8.cell 3
  have p4 : w8.cell? ⟨w2.heap.size, 4, none⟩ = some (.int .i64 2) := hp8.cell 4
  have p5 : w8.cell? ⟨w2.heap.size, 5, none⟩ = some (.int .i64 1) := hp8.cell 5
  have p6 : w8.cell? ⟨w2.heap.size, 6, none⟩ = some (.int .i64 3) := hp8.cell 6
  have p7 : w8.cell? ⟨w2.heap.size, 7, none⟩ = some (.int .i64 10) := hp8.cell 7
  have hda := gdata g0 g0_ok w8
  rw [g0_val, show g0.left = 87 from by decide] at hda
  have Hw7 := Lib.hid hw7
  have Hk8 := Lib.hid hk8
  have Hx8 := Lib.hid hx8
  have Hb8 := Lib.hid hb8
  have Hp8 := Lib.hid hp8
  have Hkw8 := Lib.hid hkw8
  have Hda := Lib.hid hda
  clear hw7 hk8 hx8 hb8 hp8 hkw8 hda
  go_wp2_with fail
  clear c0 c1 c2 p0 p1 p2 p3 p4 p5 p6 p7
  refine Hda.out.mono ?_
  rintro e w9 ⟨rfl, hk9⟩
  have hx9 := Hx8.out.keep hk9 (fun h => h)
  have hb9 := Hb8.out.keep hk9 (fun h => h)
  have hkw9 := Hkw8.out.more hk9
  have c0 : w9.cell? ⟨w.heap.size, 0, none⟩ = some (.int .i64 64) := hb9.cell 0
  have c1 : w9.cell? ⟨w.heap.size, 1, none⟩ = some (.int .i64 100) := hb9.cell 1
  have c2 : w9.cell? ⟨w.heap.size, 2, none⟩ = some (.int .i64 10) := hb9.cell 2
  have x0 : w9.cell? ⟨w6.heap.size, 0, none⟩ = some (.int .i64 64) := hx9.cell 0
  have x1 : w9.cell? ⟨w6.heap.size, 1, none⟩ = some (.int .i64 100) := hx9.cell 1
  have x2 : w9.cell? ⟨w6.heap.size, 2, none⟩ = some (.int .i64 10) := hx9.cell 2
  have Hk9 := Lib.hid hk9
  have Hx9 := Lib.hid hx9
  have Hb9 := Lib.hid hb9
  have Hkw9 := Lib.hid hkw9
  clear hk9 hx9 hb9 hkw9
  go_wp2_with fail
  go_ret
  exact ⟨rfl, Hkw9.out⟩
end Go.Proofs.Ytblmbchjafffbaa
