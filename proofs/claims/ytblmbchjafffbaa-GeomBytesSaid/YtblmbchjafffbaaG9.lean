/-
  geom: the statement GeomBytes, walked.
-/
import Derived.Test.YtblmbchjafffbaaG8
namespace Go.Proofs.Ytblmbchjafffbaa
open Go.RowKit

set_option maxHeartbeats 3200000 in
set_option maxRecDepth 20000 in
theorem gbytes_walk (g : Geo) (v0 : Value) (g0' : Option Nat) (L : List UInt8) (w : World) (hr : Rd w v0 g0' (L.map bv)) : Calls Try.prog 11 #[g.val, v0] w (YesG w) := by
  obtain ⟨A0, c0', rfl, -⟩ := hr.form
  rw [List.length_map] at *
  obtain ⟨w1, hw1⟩ : ∃ w1, w1 = w.alloc (.cells #[.int .i64 g.b, .int .i64 g.n, .int .i64 g.m] 60) := ⟨_, rfl⟩
  have hk1 : Keeps nowhere w w1 := by rw [hw1]; exact (Keeps.refl _ _).alloc _
  have hb1 : Blk w1 w.heap.size 60 #[.int .i64 g.b, .int .i64 g.n, .int .i64 g.m] := by rw [hw1]; exact Blk.new _ _ _
  obtain ⟨C, hC⟩ : ∃ C, C = chkG g := ⟨_, rfl⟩
  have hneq : ∀ w, (binOp .neq 60 (.agg #[.int .i64 g.b, .int .i64 g.n, .int .i64 g.m]) (.agg #[.int .i64 g.b, .int .i64 g.n, .int .i64 g.m])).run Try.prog w = .ok (.bool false) w := fun w => by
    have h := gneq_run g g w
    rw [(eqG_iff g g).2 rfl] at h
    exact h
  unfold Geo.val
  have Hr := Lib.hid hr
  have Hk1 := Lib.hid hk1
  have Hb1 := Lib.hid hb1
  have HC := Lib.hid hC
  clear hr hk1 hb1 hC
  go_enter Try.func11, Try.ntmps11
  go_wp2_with fail
  rw [← hw1]
  refine (known10 w1).mono ?_
  rintro e w2 ⟨rfl, hk2⟩
  have hb2 := Hb1.out.keep hk2 (fun h => h)
  have hkw2 := Hk1.out.more hk2
  have hr2 := Hr.out.keep hkw2 (fun _ _ h => h)
  have c0 : w2.cell? ⟨w.heap.size, 0, none⟩ = some (.int .i64 g.b) := hb2.cell 0
  have c1 : w2.cell? ⟨w.heap.size, 1, none⟩ = some (.int .i64 g.n) := hb2.cell 1
  have c2 : w2.cell? ⟨w.heap.size, 2, none⟩ = some (.int .i64 g.m) := hb2.cell 2
  by_cases hlen : 1100 < L.length
  · have hlI : (L.length : Int) > 1100 := by omega
    have Hw1 := Lib.hid hw1
    have Hk2 := Lib.hid hk2
    have Hb2 := Lib.hid hb2
    have Hkw2 := Lib.hid hkw2
    have Hr2 := Lib.hid hr2
    clear hw1 hk2 hb2 hkw2 hr2
    clear c0 c1 c2
    go_wp2_with fail
    go_ret
    exact ⟨rfl, Hkw2.out⟩
  · have hlI : ¬ (L.length : Int) > 1100 := by omega
    have hen := gencode g w2
    unfold Geo.val at hen
    have Hw1 := Lib.hid hw1
    have Hk2 := Lib.hid hk2
    have Hb2 := Lib.hid hb2
    have Hkw2 := Lib.hid hkw2
    have Hr2 := Lib.hid hr2
    have Hen := Lib.hid hen
    clear hw1 hk2 hb2 hkw2 hr2 hen
    go_wp2_with fail
    clear c0 c1 c2
    refine Hen.out.mono ?_
    rintro e w3 ⟨v3, g3, rfl, hr3, hab3, hk3⟩
    rw [← HC.out]
    obtain ⟨E, hE⟩ : ∃ E, E = encG g := ⟨_, rfl⟩
    rw [← hE] at hr3
    obtain ⟨A3, cc3, rfl, -⟩ := hr3.form
    rw [List.length_map] at *
    have hb3 := Hb2.out.keep hk3 (fun h => h)
    have hkw3 := Hkw2.out.more hk3
    have hr3b := Hr2.out.keep hk3 (fun _ _ h => h)
    have hck := gcheck g w3
    unfold Geo.val at hck
    rw [← HC.out] at hck
    have hcc : (C != C) = false := by simp
    have c0 : w3.cell? ⟨w.heap.size, 0, none⟩ = some (.int .i64 g.b) := hb3.cell 0
    have c1 : w3.cell? ⟨w.heap.size, 1, none⟩ = some (.int .i64 g.n) := hb3.cell 1
    have c2 : w3.cell? ⟨w.heap.size, 2, none⟩ = some (.int .i64 g.m) := hb3.cell 2
    have Hr3 := Lib.hid hr3
    have Hab3 := Lib.hid hab3
    have Hk3 := Lib.hid hk3
    have Hb3 := Lib.hid hb3
    have Hkw3 := Lib.hid hkw3
    have Hr3b := Lib.hid hr3b
    have HE := Lib.hid hE
    have Hck := Lib.hid hck
    clear hr3 hab3 hk3 hb3 hkw3 hr3b hE hck
    go_wp2_with fail
    clear c0 c1 c2
    refine Hck.out.mono ?_
    rintro e w4 ⟨rfl, hk4⟩
    have hb4 := Hb3.out.keep hk4 (fun h => h)
    have hkw4 := Hkw3.out.more hk4
    have hr4 := Hr3.out.keep hk4 (fun _ _ h => h)
    have hr4b := Hr3b.out.keep hk4 (fun _ _ h => h)
    by_cases hc : C = 0
    · have hc' : (C == 0) = true := by simp [hc]
      have hchk : chkG g = 0 := by rw [← HC.out]; exact hc
      have hEB : E = encGB g := by rw [HE.out, encG, if_pos hchk]
      have hlEN := encGB_len g (chkG_ok hchk)
      rw [← hEB] at hlEN
      have hb0 := gsizes_le (chkG_ok hchk).1
      have hlE : ((E.length : Int) != g.b) = false := by
        rw [hlEN]
        simp
        omega
      have hd : decGo E = g ∧ decGe E = 0 := by rw [hEB]; exact decG_enc g hchk
      have Hk4 := Lib.hid hk4
      have Hb4 := Lib.hid hb4
      have Hkw4 := Lib.hid hkw4
      have Hr4 := Lib.hid hr4
      have Hr4b := Lib.hid hr4b
      have Hc := Lib.hid hc
      have Hchk := Lib.hid hchk
      have HEB := Lib.hid hEB
      have Hd := Lib.hid hd
      have HlEN := Lib.hid hlEN
      clear hk4 hb4 hkw4 hr4 hr4b hc hchk hEB hd hlEN
      go_wp2_with fail
      refine (gdecode _ _ E _ Hr4.out (by have := HlEN.out; omega)).mono ?_
      rintro e w5 ⟨rfl, hk5⟩
      rw [Hd.out.1, Hd.out.2]
      unfold Geo.val
      obtain ⟨w6, hw6⟩ : ∃ w6, w6 = w5.alloc (.cells #[.int .i64 g.b, .int .i64 g.n, .int .i64 g.m] 60) := ⟨_, rfl⟩
      have hka : Keeps nowhere w5 w6 := by rw [hw6]; exact (Keeps.refl _ _).alloc _
      have hx6 : Blk w6 w5.heap.size 60 #[.int .i64 g.b, .int .i64 g.n, .int .i64 g.m] := by rw [hw6]; exact Blk.new _ _ _
      have hb6 := (Hb4.out.keep hk5 (fun h => h)).keep hka (fun h => h)
      have hkw6 := (Hkw4.out.more hk5).more hka
      have hr6b := (Hr4b.out.keep hk5 (fun _ _ h => h)).keep hka (fun _ _ h => h)
      have c0 : w6.cell? ⟨w.heap.size, 0, none⟩ = some (.int .i64 g.b) := hb6.cell 0
      have c1 : w6.cell? ⟨w.heap.size, 1, none⟩ = some (.int .i64 g.n) := hb6.cell 1
      have c2 : w6.cell? ⟨w.heap.size, 2, none⟩ = some (.int .i64 g.m) := hb6.cell 2
      have y0 : w6.cell? ⟨w5.heap.size, 0, none⟩ = some (.int .i64 g.b) := hx6.cell 0
      have y1 : w6.cell? ⟨w5.heap.size, 1, none⟩ = some (.int .i64 g.n) := hx6.cell 1
      have y2 : w6.cell? ⟨w5.heap.size, 2, none⟩ = some (.int .i64 g.m) := hx6.cell 2
      rw [hw6] at c0 c1 c2 y0 y1 y2
      have Hk5 := Lib.hid hk5
      have Hka := Lib.hid hka
      have Hx6 := Lib.hid hx6
      have Hb6 := Lib.hid hb6
      have Hkw6 := Lib.hid hkw6
      have Hr6b := Lib.hid hr6b
      clear hk5 hka hx6 hb6 hkw6 hr6b
      go_wp2_with fail
      rw [← hw6]
      clear c0 c1 c2 y0 y1 y2
      have Hw6 := Lib.hid hw6
      clear hw6
      go_wp2_with fail
      refine (gdecode _ _ L _ Hr6b.out (by omega)).mono ?_
      rintro e wB ⟨rfl, hkB⟩
      obtain ⟨j, hj⟩ : ∃ j, j = decGo L := ⟨_, rfl⟩
      obtain ⟨f, hf⟩ : ∃ f, f = decGe L := ⟨_, rfl⟩
      rw [← hj, ← hf]
      unfold Geo.val
      obtain ⟨wC, hwC⟩ : ∃ wC, wC = wB.alloc (.cells #[.int .i64 j.b, .int .i64 j.n, .int .i64 j.m] 60) := ⟨_, rfl⟩
      have hkC : Keeps nowhere wB wC := by rw [hwC]; exact (Keeps.refl _ _).alloc _
      have hxC : Blk wC wB.heap.size 60 #[.int .i64 j.b, .int .i64 j.n, .int .i64 j.m] := by rw [hwC]; exact Blk.new _ _ _
      have hkwC := (Hkw6.out.more hkB).more hkC
      have hrC := (Hr6b.out.keep hkB (fun _ _ h => h)).keep hkC (fun _ _ h => h)
      by_cases hg : goodG L
      · have hf0 : f = 0 := by rw [hf, decGe, if_pos hg]
        have hj0 : j = rdG L := by rw [hj, decGo, if_pos hg]
        have hcj : chkG j = 0 := by rw [hj0]; exact hg.1
        have hEj : encG j = L := by rw [encG, if_pos hcj, hj0]; exact hg.2
        subst hf0
        have hen := gencode j wC
        unfold Geo.val at hen
        have x0 : wC.cell? ⟨wB.heap.size, 0, none⟩ = some (.int .i64 j.b) := hxC.cell 0
        have x1 : wC.cell? ⟨wB.heap.size, 1, none⟩ = some (.int .i64 j.n) := hxC.cell 1
        have x2 : wC.cell? ⟨wB.heap.size, 2, none⟩ = some (.int .i64 j.m) := hxC.cell 2
        have HkB := Lib.hid hkB
        have Hj := Lib.hid hj
        have Hf := Lib.hid hf
        have HkC := Lib.hid hkC
        have HxC := Lib.hid hxC
        have HkwC := Lib.hid hkwC
        have HrC := Lib.hid hrC
        have Hg := Lib.hid hg
        have Hj0 := Lib.hid hj0
        have Hcj := Lib.hid hcj
        have HEj := Lib.hid hEj
        have Hen := Lib.hid hen
        clear hkB hj hf hkC hxC hkwC hrC hg hj0 hcj hEj hen
        rw [hwC] at x0 x1 x2
        go_wp2_with fail
        rw [← hwC]
        clear x0 x1 x2
        refine Hen.out.mono ?_
        rintro e wD ⟨vD, gD, rfl, hrD, habD, hkD⟩
        rw [Hcj.out]
        rw [HEj.out] at hrD
        obtain ⟨AD, ccD, rfl, -⟩ := hrD.form
        rw [List.length_map] at *
        have s1 := conv_str _ _ _ _ hrD
        have s2 := conv_str _ _ _ _ (HrC.out.keep hkD (fun _ _ h => h))
        have sq := strOf_beq (rfl : L = L)
        have hkwD := HkwC.out.more hkD
        have HrD := Lib.hid hrD
        have HabD := Lib.hid habD
        have HkD := Lib.hid hkD
        have HkwD := Lib.hid hkwD
        have HwC := Lib.hid hwC
        clear hrD habD hkD hkwD hwC
        go_wp2_with fail
        go_ret
        exact ⟨rfl, HkwD.out⟩
      · have hf0 : f = 2 := by rw [hf, decGe, if_neg hg]
        have hj0 : j = zeroG := by rw [hj, decGo, if_neg hg]
        subst hf0
        subst hj0
        have hze : ∀ w, (binOp .eql 60 (.agg #[.int .i64 0, .int .i64 0, .int .i64 0]) (.agg #[.int .i64 0, .int .i64 0, .int .i64 0])).run Try.prog w = .ok (.bool true) w := fun _ => by kernel_rfl
        have x0 : wC.cell? ⟨wB.heap.size, 0, none⟩ = some (.int .i64 0) := hxC.cell 0
        have x1 : wC.cell? ⟨wB.heap.size, 1, none⟩ = some (.int .i64 0) := hxC.cell 1
        have x2 : wC.cell? ⟨wB.heap.size, 2, none⟩ = some (.int .i64 0) := hxC.cell 2
        rw [hwC] at x0 x1 x2
        simp only [zeroG] at hwC x0 x1 x2 ⊢
        have HkB := Lib.hid hkB
        have Hj := Lib.hid hj
        have Hf := Lib.hid hf
        have HkC := Lib.hid hkC
        have HxC := Lib.hid hxC
        have HkwC := Lib.hid hkwC
        have HrC := Lib.hid hrC
        have Hg := Lib.hid hg
        clear hkB hj hf hkC hxC hkwC hrC hg
        go_wp2_with fail
        rw [← hwC]
        go_ret
        exact ⟨rfl, HkwC.out⟩
    · have hc' : (C == 0) = false := by simp [hc]
      have hE0 : E = [] := by rw [HE.out, encG, if_neg (by rw [← HC.out]; exact hc)]
      have hl0 : ((E.length : Int) != 0) = false := by rw [hE0]; rfl
      have Hk4 := Lib.hid hk4
      have Hb4 := Lib.hid hb4
      have Hkw4 := Lib.hid hkw4
      have Hr4 := Lib.hid hr4
      have Hr4b := Lib.hid hr4b
      have Hc := Lib.hid hc
      have HE0 := Lib.hid hE0
      clear hk4 hb4 hkw4 hr4 hr4b hc hE0
      go_wp2_with fail
      refine (gdecode _ _ L _ Hr4b.out (by omega)).mono ?_
      rintro e wB ⟨rfl, hkB⟩
      obtain ⟨j, hj⟩ : ∃ j, j = decGo L := ⟨_, rfl⟩
      obtain ⟨f, hf⟩ : ∃ f, f = decGe L := ⟨_, rfl⟩
      rw [← hj, ← hf]
      unfold Geo.val
      obtain ⟨wC, hwC⟩ : ∃ wC, wC = wB.alloc (.cells #[.int .i64 j.b, .int .i64 j.n, .int .i64 j.m] 60) := ⟨_, rfl⟩
      have hkC : Keeps nowhere wB wC := by rw [hwC]; exact (Keeps.refl _ _).alloc _
      have hxC : Blk wC wB.heap.size 60 #[.int .i64 j.b, .int .i64 j.n, .int .i64 j.m] := by rw [hwC]; exact Blk.new _ _ _
      have hkwC := (Hkw4.out.more hkB).more hkC
      have hrC := (Hr4b.out.keep hkB (fun _ _ h => h)).keep hkC (fun _ _ h => h)
      by_cases hg : goodG L
      · have hf0 : f = 0 := by rw [hf, decGe, if_pos hg]
        have hj0 : j = rdG L := by rw [hj, decGo, if_pos hg]
        have hcj : chkG j = 0 := by rw [hj0]; exact hg.1
        have hEj : encG j = L := by rw [encG, if_pos hcj, hj0]; exact hg.2
        subst hf0
        have hen := gencode j wC
        unfold Geo.val at hen
        have x0 : wC.cell? ⟨wB.heap.size, 0, none⟩ = some (.int .i64 j.b) := hxC.cell 0
        have x1 : wC.cell? ⟨wB.heap.size, 1, none⟩ = some (.int .i64 j.n) := hxC.cell 1
        have x2 : wC.cell? ⟨wB.heap.size, 2, none⟩ = some (.int .i64 j.m) := hxC.cell 2
        have HkB := Lib.hid hkB
        have Hj := Lib.hid hj
        have Hf := Lib.hid hf
        have HkC := Lib.hid hkC
        have HxC := Lib.hid hxC
        have HkwC := Lib.hid hkwC
        have HrC := Lib.hid hrC
        have Hg := Lib.hid hg
        have Hj0 := Lib.hid hj0
        have Hcj := Lib.hid hcj
        have HEj := Lib.hid hEj
        have Hen := Lib.hid hen
        clear hkB hj hf hkC hxC hkwC hrC hg hj0 hcj hEj hen
        rw [hwC] at x0 x1 x2
        go_wp2_with fail
        rw [← hwC]
        clear x0 x1 x2
        refine Hen.out.mono ?_
        rintro e wD ⟨vD, gD, rfl, hrD, habD, hkD⟩
        rw [Hcj.out]
        rw [HEj.out] at hrD
        obtain ⟨AD, ccD, rfl, -⟩ := hrD.form
        rw [List.length_map] at *
        have s1 := conv_str _ _ _ _ hrD
        have s2 := conv_str _ _ _ _ (HrC.out.keep hkD (fun _ _ h => h))
        have sq := strOf_beq (rfl : L = L)
        have hkwD := HkwC.out.more hkD
        have HrD := Lib.hid hrD
        have HabD := Lib.hid habD
        have HkD := Lib.hid hkD
        have HkwD := Lib.hid hkwD
        have HwC := Lib.hid hwC
        clear hrD habD hkD hkwD hwC
        go_wp2_with fail
        go_ret
        exact ⟨rfl, HkwD.out⟩
      · have hf0 : f = 2 := by rw [hf, decGe, if_neg hg]
        have hj0 : j = zeroG := by rw [hj, decGo, if_neg hg]
        subst hf0
        subst hj0
        have hze : ∀ w, (binOp .eql 60 (.agg #[.int .i64 0, .int .i64 0, .int .i64 0]) (.agg #[.int .i64 0, .int .i64 0, .int .i64 0])).run Try.prog w = .ok (.bool true) w := fun _ => by kernel_rfl
        have x0 : wC.cell? ⟨wB.heap.size, 0, none⟩ = some (.int .i64 0) := hxC.cell 0
        have x1 : wC.cell? ⟨wB.heap.size, 1, none⟩ = some (.int .i64 0) := hxC.cell 1
        have x2 : wC.cell? ⟨wB.heap.size, 2, none⟩ = some (.int .i64 0) := hxC.cell 2
        rw [hwC] at x0 x1 x2
        simp only [zeroG] at hwC x0 x1 x2 ⊢
        have HkB := Lib.hid hkB
        have Hj := Lib.hid hj
        have Hf := Lib.hid hf
        have HkC := Lib.hid hkC
        have HxC := Lib.hid hxC
        have HkwC := Lib.hid hkwC
        have HrC := Lib.hid hrC
        have Hg := Lib.hid hg
        clear hkB hj hf hkC hxC hkwC hrC hg
        go_wp2_with fail
        rw [← hwC]
        go_ret
        exact ⟨rfl, HkwC.out⟩
end Go.Proofs.Ytblmbchjafffbaa
