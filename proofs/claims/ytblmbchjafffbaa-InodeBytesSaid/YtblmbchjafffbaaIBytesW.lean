/-
  inode: the statement InodeBytes, walked.
-/
import Derived.Test.YtblmbchjafffbaaI11
namespace Go.Proofs.Ytblmbchjafffbaa
open Go.RowKit

set_option maxHeartbeats 3200000 in
set_option maxRecDepth 20000 in
theorem ibytes_walk (v0 : Value) (g0 : Option Nat) (L : List UInt8) (w : World) (hr : Rd w v0 g0 (L.map bv)) (hb : L.length ≤ 140737488351232) : Calls Try.prog 8 #[v0] w (YesI w) := by
  obtain ⟨A0, cc0, rfl, -⟩ := hr.form
  rw [List.length_map] at *
  have Hr := Lib.hid hr
  clear hr
  go_enter Try.func8, Try.ntmps8
  go_wp2_with fail
  refine (known11 w).mono ?_
  rintro e w1 ⟨rfl, hk1⟩
  have hr1 := Hr.out.keep hk1 (fun _ _ h => h)
  have Hk1 := Lib.hid hk1
  have Hr1 := Lib.hid hr1
  clear hk1 hr1
  go_wp2_with fail
  refine (idecode _ _ L _ Hr1.out hb).mono ?_
  rintro e w2 ⟨rfl, hk2⟩
  obtain ⟨i, hi⟩ : ∃ i, i = decI L := ⟨_, rfl⟩
  obtain ⟨e2, he2⟩ : ∃ e2, e2 = decE L := ⟨_, rfl⟩
  rw [← hi, ← he2]
  have hkw2 := Hk1.out.more hk2
  have hx3 := Blk.new w2 48 i.cells
  have hka := (Keeps.refl nowhere w2).alloc (.cells i.cells 48)
  have hkw3 := hkw2.more hka
  have hr3 := (Hr1.out.keep hk2 (fun _ _ h => h)).keep hka (fun _ _ h => h)
  obtain ⟨w3, hw3⟩ : ∃ w3, w3 = w2.alloc (.cells i.cells 48) := ⟨_, rfl⟩
  rw [← hw3] at hx3 hka hkw3 hr3
  have hw3' := hw3
  by_cases hg : goodI L
  · unfold Ino.cells at hw3'
    unfold Ino.val Ino.cells
    have he0 : e2 = 0 := by rw [he2, decE, if_pos hg]
    subst he0
    have hid : i = rdI L := by rw [hi, decI, if_pos hg]
    have hok : i.ok := by rw [hid]; exact rdI_ok L
    have hchk : chkI i = 0 := by rw [hid]; exact hg.1
    have hE : encE i = L := by rw [encE, if_pos hchk, hid]; exact hg.2
    have hen := iencode i hok w3
    unfold Ino.val Ino.cells at hen
    obtain ⟨c0, c1, c2, c3, c4, c5, c6, c7, c8, c9, c10, c11, c12, c13⟩ := ino_cells hx3
    have Hi := Lib.hid hi
    have He2 := Lib.hid he2
    have Hk2 := Lib.hid hk2
    have Hkw2 := Lib.hid hkw2
    have Hx3 := Lib.hid hx3
    have Hka := Lib.hid hka
    have Hkw3 := Lib.hid hkw3
    have Hr3 := Lib.hid hr3
    have Hw3 := Lib.hid hw3
    have Hg := Lib.hid hg
    have Hid := Lib.hid hid
    have Hok := Lib.hid hok
    have Hchk := Lib.hid hchk
    have HE := Lib.hid hE
    have Hen := Lib.hid hen
    clear hi he2 hk2 hkw2 hx3 hka hkw3 hr3 hw3 hg hid hok hchk hE hen
    rw [hw3'] at c0 c1 c2 c3 c4 c5 c6 c7 c8 c9 c10 c11 c12 c13
    go_wp2_with fail
    rw [← hw3']
    clear c0 c1 c2 c3 c4 c5 c6 c7 c8 c9 c10 c11 c12 c13
    clear hw3'
    refine Hen.out.mono ?_
    rintro e w4 ⟨v4, g4, rfl, hr4, hab4, hk4⟩
    rw [Hchk.out]
    rw [HE.out] at hr4
    obtain ⟨A4, cc4, rfl, -⟩ := hr4.form
    rw [List.length_map] at *
    have hc4 := conv_str _ _ _ _ hr4
    have hc0 := conv_str _ _ _ _ (Hr3.out.keep hk4 (fun _ _ h => h))
    have hq := strOf_beq (rfl : L = L)
    have hkw4 := Hkw3.out.more hk4
    have Hr4 := Lib.hid hr4
    have Hab4 := Lib.hid hab4
    have Hk4 := Lib.hid hk4
    have Hkw4 := Lib.hid hkw4
    clear hr4 hab4 hk4 hkw4
    go_wp2_with fail
    go_ret
    exact ⟨rfl, Hkw4.out⟩
  · have he0 : e2 = 2 := by rw [he2, decE, if_neg hg]
    subst he0
    have hiz : i = zeroI := by rw [hi, decI, if_neg hg]
    rw [hiz] at hw3' hx3
    rw [hiz, show zeroI.val = .agg #[.int .u32 0, .int .u32 0, .int .u32 0, .int .u16 0, .int .u32 0, .int .u32 0, .int .u32 0, .int .u32 0, .int .u32 0, .int .u32 0, .int .u32 0, .int .u32 0, .int .u32 0, .int .u32 0] from rfl]
    rw [show zeroI.cells = #[.int .u32 0, .int .u32 0, .int .u32 0, .int .u16 0, .int .u32 0, .int .u32 0, .int .u32 0, .int .u32 0, .int .u32 0, .int .u32 0, .int .u32 0, .int .u32 0, .int .u32 0, .int .u32 0] from rfl] at hw3'
    have hn : ∀ w, (binOp .neq 48 (.agg #[.int .u32 0, .int .u32 0, .int .u32 0, .int .u16 0, .int .u32 0, .int .u32 0, .int .u32 0, .int .u32 0, .int .u32 0, .int .u32 0, .int .u32 0, .int .u32 0, .int .u32 0, .int .u32 0]) (.agg #[.int .u32 0, .int .u32 0, .int .u32 0, .int .u16 0, .int .u32 0, .int .u32 0, .int .u32 0, .int .u32 0, .int .u32 0, .int .u32 0, .int .u32 0, .int .u32 0, .int .u32 0, .int .u32 0])).run Try.prog w = .ok (.bool false) w := fun w => by
      have h := neq_run zeroI zeroI w
      rw [(eqI_iff zeroI zeroI).2 rfl] at h
      exact h
    have z0 : w3.cell? ⟨w2.heap.size, 0, none⟩ = some (.int .u32 0) := hx3.cell 0
    have z1 : w3.cell? ⟨w2.heap.size, 1, none⟩ = some (.int .u32 0) := hx3.cell 1
    have z2 : w3.cell? ⟨w2.heap.size, 2, none⟩ = some (.int .u32 0) := hx3.cell 2
    have z3 : w3.cell? ⟨w2.heap.size, 3, none⟩ = some (.int .u16 0) := hx3.cell 3
    have z4 : w3.cell? ⟨w2.heap.size, 4, none⟩ = some (.int .u32 0) := hx3.cell 4
    have z5 : w3.cell? ⟨w2.heap.size, 5, none⟩ = some (.int .u32 0) := hx3.cell 5
    have z6 : w3.cell? ⟨w2.heap.size, 6, none⟩ = some (.int .u32 0) := hx3.cell 6
    have z7 : w3.cell? ⟨w2.heap.size, 7, none⟩ = some (.int .u32 0) := hx3.cell 7
    have z8 : w3.cell? ⟨w2.heap.size, 8, none⟩ = some (.int .u32 0) := hx3.cell 8
    have z9 : w3.cell? ⟨w2.heap.size, 9, none⟩ = some (.int .u32 0) := hx3.cell 9
    have z10 : w3.cell? ⟨w2.heap.size, 10, none⟩ = some (.int .u32 0) := hx3.cell 10
    have z11 : w3.cell? ⟨w2.heap.size, 11, none⟩ = some (.int .u32 0) := hx3.cell 11
    have z12 : w3.cell? ⟨w2.heap.size, 12, none⟩ = some (.int .u32 0) := hx3.cell 12
    have z13 : w3.cell? ⟨w2.heap.size, 13, none⟩ = some (.int .u32 0) := hx3.cell 13
    rw [hw3'] at z0 z1 z2 z3 z4 z5 z6 z7 z8 z9 z10 z11 z12 z13
    by_cases hl : L.length = 64
    · have hbad : badL L := Classical.byContradiction fun h => hg (good_of L hl h)
      have hlb := lbad _ _ L _ hr3 hl hbad
      have hlI : ((L.length : Int) != 64) = false := by rw [hl]; rfl
      have Hi := Lib.hid hi
      have He2 := Lib.hid he2
      have Hk2 := Lib.hid hk2
      have Hkw2 := Lib.hid hkw2
      have Hx3 := Lib.hid hx3
      have Hka := Lib.hid hka
      have Hkw3 := Lib.hid hkw3
      have Hr3 := Lib.hid hr3
      have Hw3 := Lib.hid hw3
      have Hg := Lib.hid hg
      have Hiz := Lib.hid hiz
      have Hbad := Lib.hid hbad
      have Hlb := Lib.hid hlb
      have Hl := Lib.hid hl
      clear hi he2 hk2 hkw2 hx3 hka hkw3 hr3 hw3 hg hiz hbad hlb hl
      go_wp2_with fail
      rw [← hw3']
      clear z0 z1 z2 z3 z4 z5 z6 z7 z8 z9 z10 z11 z12 z13 hw3'
      refine Hlb.out.mono ?_
      rintro e w4 ⟨rfl, hk4⟩
      have Hk4 := Lib.hid hk4
      clear hk4
      go_wp2_with fail
      go_ret
      exact ⟨rfl, Hkw3.out.more Hk4.out⟩
    · have hlI : ((L.length : Int) != 64) = true := by simp; omega
      rw [hw3'] at hkw3
      clear hw3'
      have Hi := Lib.hid hi
      have He2 := Lib.hid he2
      have Hk2 := Lib.hid hk2
      have Hkw2 := Lib.hid hkw2
      have Hx3 := Lib.hid hx3
      have Hka := Lib.hid hka
      have Hkw3 := Lib.hid hkw3
      have Hr3 := Lib.hid hr3
      have Hw3 := Lib.hid hw3
      have Hg := Lib.hid hg
      have Hiz := Lib.hid hiz
      have Hl := Lib.hid hl
      clear hi he2 hk2 hkw2 hx3 hka hkw3 hr3 hw3 hg hiz hl
      go_wp2_with fail
      go_ret
      exact ⟨rfl, Hkw3.out⟩
end Go.Proofs.Ytblmbchjafffbaa
