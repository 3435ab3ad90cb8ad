/-
  geom: Data, Check, Inode.
-/
import Derived.Test.YtblmbchjafffbaaG1
namespace Go.Proofs.Ytblmbchjafffbaa
open Go.RowKit

def leftP (n x y z : Int) : Nat → Int
  | 0 => n
  | 1 => n - 1
  | 2 => n - 1 - x
  | 3 => n - 1 - x - y
  | _ => n - 1 - x - y - z
def Geo.left (g : Geo) : Int := g.n - 1 - g.x - g.y - g.z

set_option maxHeartbeats 1600000 in
set_option maxRecDepth 20000 in
theorem gdata (g : Geo) (hg : g.ok) (w : World) : Calls Try.prog 39 #[g.val] w fun e w' => e = .returned (.int .i64 g.left) ∧ Keeps nowhere w w' := by
  obtain ⟨wg, hwg⟩ : ∃ wg, wg = w.alloc (.cells #[.int .i64 g.b, .int .i64 g.n, .int .i64 g.m] 60) := ⟨_, rfl⟩
  have hkg : Keeps nowhere w wg := by rw [hwg]; exact (Keeps.refl _ _).alloc _
  have hbg : Blk wg w.heap.size 60 #[.int .i64 g.b, .int .i64 g.n, .int .i64 g.m] := by rw [hwg]; exact Blk.new _ _ _
  have hgp := gparts g wg
  have hbnd := geo_bounds hg
  have hn8 := hg.2.1
  have hn9 := hg.2.2.1
  rw [partsV, if_pos hg] at hgp
  unfold partsC at hgp
  unfold Geo.left
  obtain ⟨x, hx'⟩ : ∃ x, x = g.x := ⟨_, rfl⟩
  obtain ⟨y, hy'⟩ : ∃ y, y = g.y := ⟨_, rfl⟩
  obtain ⟨z, hz'⟩ : ∃ z, z = g.z := ⟨_, rfl⟩
  rw [← hx', ← hy', ← hz'] at hbnd hgp ⊢
  unfold Geo.val at hgp ⊢
  have c0 := hbg.cell 0
  have c1 := hbg.cell 1
  have c2 := hbg.cell 2
  simp at c0 c1 c2
  have Hkg := Lib.hid hkg
  have Hbg := Lib.hid hbg
  have Hgp := Lib.hid hgp
  have Hx' := Lib.hid hx'
  have Hy' := Lib.hid hy'
  have Hz' := Lib.hid hz'
  have Hg := Lib.hid hg
  clear hkg hbg hgp hx' hy' hz' hg
  go_enter Try.func39, Try.ntmps39
  go_wp2_with fail
  rw [← hwg]
  refine Hgp.out.mono ?_
  rintro e w1 ⟨rfl, hk1⟩
  have hkw1 := Hkg.out.more hk1
  clear c0 c1 c2
  have Hk1 := Lib.hid hk1
  have Hkw1 := Lib.hid hkw1
  have Hwg := Lib.hid hwg
  clear hk1 hkw1 hwg
  go_wp2_with fail
  go_loopw [3, 5, 10] (fun nv _ kv wr => ∃ k : Nat, k ≤ 4 ∧ kv = .int .i64 k ∧ nv = .int .i64 (leftP g.n x y z k) ∧ Keeps nowhere w wr) (fun _ _ kv _ => 4 - (intOf kv).toNat)
  case atStart => exact ⟨0, Nat.zero_le _, rfl, rfl, Hkw1.out⟩
  case round =>
    obtain ⟨k, hk, rfl, rfl, hkr⟩ := hrel
    by_cases hlt : k < 4
    · obtain rfl | rfl | rfl | rfl : k = 0 ∨ k = 1 ∨ k = 2 ∨ k = 3 := by omega
      all_goals clear hlt hk
      · have hsub : IntKind.i64.wrap (g.n - 1) = g.n - 1 := IntWalk.i64_in _ (by omega)
        have hkr2 := hkr.alloc (.cells #[.int .i64 (0), .int .i64 (1)] 70)
        rw [show leftP g.n x y z 0 = g.n from rfl]
        rw [show ((0 : Nat) : Int) = 0 from rfl]
        have hix : ∀ w, (Instr.index 71 (.agg #[.int .i64 0, .int .i64 1, .int .i64 1, .int .i64 x, .int .i64 (1 + x), .int .i64 y, .int .i64 (1 + x + y), .int .i64 z]) (.int .i64 0)).run Try.prog w = .ok (.agg #[.int .i64 (0), .int .i64 (1)]) w := fun _ => by kernel_rfl
        have Hkr2 := Lib.hid hkr2
        have Hkr := Lib.hid hkr
        clear hkr2 hkr
        go_wp2_with fail
        go_roundw
        case rel => exact ⟨1, by omega, by go_num, rfl, Hkr2.out⟩
        case measure => simp [intOf]
      · have hsub : IntKind.i64.wrap (g.n - 1 - x) = g.n - 1 - x := IntWalk.i64_in _ (by omega)
        have hkr2 := hkr.alloc (.cells #[.int .i64 (1), .int .i64 (x)] 70)
        rw [show leftP g.n x y z 1 = g.n - 1 from rfl]
        rw [show ((1 : Nat) : Int) = 1 from rfl]
        have hix : ∀ w, (Instr.index 71 (.agg #[.int .i64 0, .int .i64 1, .int .i64 1, .int .i64 x, .int .i64 (1 + x), .int .i64 y, .int .i64 (1 + x + y), .int .i64 z]) (.int .i64 1)).run Try.prog w = .ok (.agg #[.int .i64 (1), .int .i64 (x)]) w := fun _ => by kernel_rfl
        have Hkr2 := Lib.hid hkr2
        have Hkr := Lib.hid hkr
        clear hkr2 hkr
        go_wp2_with fail
        go_roundw
        case rel => exact ⟨2, by omega, by go_num, rfl, Hkr2.out⟩
        case measure => simp [intOf]
      · have hsub : IntKind.i64.wrap (g.n - 1 - x - y) = g.n - 1 - x - y := IntWalk.i64_in _ (by omega)
        have hkr2 := hkr.alloc (.cells #[.int .i64 (1 + x), .int .i64 (y)] 70)
        rw [show leftP g.n x y z 2 = g.n - 1 - x from rfl]
        rw [show ((2 : Nat) : Int) = 2 from rfl]
        have hix : ∀ w, (Instr.index 71 (.agg #[.int .i64 0, .int .i64 1, .int .i64 1, .int .i64 x, .int .i64 (1 + x), .int .i64 y, .int .i64 (1 + x + y), .int .i64 z]) (.int .i64 2)).run Try.prog w = .ok (.agg #[.int .i64 (1 + x), .int .i64 (y)]) w := fun _ => by kernel_rfl
        have Hkr2 := Lib.hid hkr2
        have Hkr := Lib.hid hkr
        clear hkr2 hkr
        go_wp2_with fail
        go_roundw
        case rel => exact ⟨3, by omega, by go_num, rfl, Hkr2.out⟩
        case measure => simp [intOf]
      · have hsub : IntKind.i64.wrap (g.n - 1 - x - y - z) = g.n - 1 - x - y - z := IntWalk.i64_in _ (by omega)
        have hkr2 := hkr.alloc (.cells #[.int .i64 (1 + x + y), .int .i64 (z)] 70)
        rw [show leftP g.n x y z 3 = g.n - 1 - x - y from rfl]
        rw [show ((3 : Nat) : Int) = 3 from rfl]
        have hix : ∀ w, (Instr.index 71 (.agg #[.int .i64 0, .int .i64 1, .int .i64 1, .int .i64 x, .int .i64 (1 + x), .int .i64 y, .int .i64 (1 + x + y), .int .i64 z]) (.int .i64 3)).run Try.prog w = .ok (.agg #[.int .i64 (1 + x + y), .int .i64 (z)]) w := fun _ => by kernel_rfl
        have Hkr2 := Lib.hid hkr2
        have Hkr := Lib.hid hkr
        clear hkr2 hkr
        go_wp2_with fail
        go_roundw
        case rel => exact ⟨4, by omega, by go_num, rfl, Hkr2.out⟩
        case measure => simp [intOf]
    · obtain rfl : k = 4 := by omega
      rw [show leftP g.n x y z 4 = g.n - 1 - x - y - z from rfl]
      have Hkr := Lib.hid hkr
      clear hkr
      go_wp2_with fail
      go_ret
      exact ⟨rfl, Hkr.out⟩

def chkG (g : Geo) : Int := if g.ok then (if g.left < 1 then 14 else 0) else 1

set_option maxHeartbeats 1600000 in
set_option maxRecDepth 20000 in
theorem gcheck (g : Geo) (w : World) : Calls Try.prog 34 #[g.val] w fun e w' => e = .returned (.int .i64 (chkG g)) ∧ Keeps nowhere w w' := by
  obtain ⟨wg, hwg⟩ : ∃ wg, wg = w.alloc (.cells #[.int .i64 g.b, .int .i64 g.n, .int .i64 g.m] 60) := ⟨_, rfl⟩
  have hkg : Keeps nowhere w wg := by rw [hwg]; exact (Keeps.refl _ _).alloc _
  have hbg : Blk wg w.heap.size 60 #[.int .i64 g.b, .int .i64 g.n, .int .i64 g.m] := by rw [hwg]; exact Blk.new _ _ _
  have hgr := gright g wg
  obtain ⟨C, hC⟩ : ∃ C, C = chkG g := ⟨_, rfl⟩
  rw [← hC]
  unfold Geo.val at hgr ⊢
  have c0 := hbg.cell 0
  have c1 := hbg.cell 1
  have c2 := hbg.cell 2
  simp at c0 c1 c2
  have Hkg := Lib.hid hkg
  have Hbg := Lib.hid hbg
  have Hgr := Lib.hid hgr
  have HC := Lib.hid hC
  clear hkg hbg hgr hC
  go_enter Try.func34, Try.ntmps34
  go_wp2_with fail
  rw [← hwg]
  refine Hgr.out.mono ?_
  rintro e w1 ⟨rfl, hk1⟩
  have hb1 := Hbg.out.keep hk1 (fun h => h)
  have hkw1 := Hkg.out.more hk1
  obtain ⟨R, hR⟩ : ∃ R, R = decide g.ok := ⟨_, rfl⟩
  rw [← hR]
  clear c0 c1 c2
  have c0 := hb1.cell 0
  have c1 := hb1.cell 1
  have c2 := hb1.cell 2
  simp at c0 c1 c2
  by_cases hg : g.ok
  · have hR1 : R = true := by rw [hR, decide_eq_true hg]
    subst hR1
    have hgd := gdata g hg w1
    unfold Geo.val at hgd
    obtain ⟨l, hl⟩ : ∃ l, l = g.left := ⟨_, rfl⟩
    rw [← hl] at hgd
    have Hk1 := Lib.hid hk1
    have Hb1 := Lib.hid hb1
    have Hkw1 := Lib.hid hkw1
    have HR := Lib.hid hR
    have Hwg := Lib.hid hwg
    have Hgd := Lib.hid hgd
    have Hg := Lib.hid hg
    have Hl := Lib.hid hl
    clear hk1 hb1 hkw1 hR hwg hgd hg hl
    go_wp2_with fail
    refine Hgd.out.mono ?_
    rintro e w2 ⟨rfl, hk2⟩
    have hkw2 := Hkw1.out.more hk2
    by_cases h1 : l < 1
    · have hC1 : C = 14 := by rw [HC.out, chkG, if_pos Hg.out, ← Hl.out, if_pos h1]
      have Hk2 := Lib.hid hk2
      have Hkw2 := Lib.hid hkw2
      have HC1 := Lib.hid hC1
      clear hk2 hkw2 hC1
      go_wp2_with fail
      go_ret
      exact ⟨by rw [HC1.out]; rfl, Hkw2.out⟩
    · have hC1 : C = 0 := by rw [HC.out, chkG, if_pos Hg.out, ← Hl.out, if_neg h1]
      have Hk2 := Lib.hid hk2
      have Hkw2 := Lib.hid hkw2
      have HC1 := Lib.hid hC1
      clear hk2 hkw2 hC1
      go_wp2_with fail
      go_ret
      exact ⟨by rw [HC1.out]; rfl, Hkw2.out⟩
  · have hR1 : R = false := by rw [hR, decide_eq_false hg]
    subst hR1
    have hC1 : C = 1 := by rw [HC.out, chkG, if_neg hg]
    have Hk1 := Lib.hid hk1
    have Hb1 := Lib.hid hb1
    have Hkw1 := Lib.hid hkw1
    have HR := Lib.hid hR
    have Hwg := Lib.hid hwg
    have HC1 := Lib.hid hC1
    clear hk1 hb1 hkw1 hR hwg hC1
    go_wp2_with fail
    go_ret
    exact ⟨by rw [HC1.out]; rfl, Hkw1.out⟩

def Geo.at0 (g : Geo) (i : Int) : Int := 1 + g.x + g.y + (i - 1) / (g.b / 64)
def Geo.at1 (g : Geo) (i : Int) : Int := (i - 1) % (g.b / 64) * 64

set_option maxHeartbeats 1600000 in
set_option maxRecDepth 20000 in
theorem ginode (g : Geo) (hg : g.ok) (i : Int) (hi1 : 1 ≤ i) (hi2 : i ≤ g.m) (w : World) : Calls Try.prog 38 #[g.val, .int .i64 i] w fun e w' => e = .returned (.tuple #[.int .i64 (g.at0 i), .int .i64 (g.at1 i)]) ∧ Keeps nowhere w w' := by
  obtain ⟨wg, hwg⟩ : ∃ wg, wg = w.alloc (.cells #[.int .i64 g.b, .int .i64 g.n, .int .i64 g.m] 60) := ⟨_, rfl⟩
  have hkg : Keeps nowhere w wg := by rw [hwg]; exact (Keeps.refl _ _).alloc _
  have hbg : Blk wg w.heap.size 60 #[.int .i64 g.b, .int .i64 g.n, .int .i64 g.m] := by rw [hwg]; exact Blk.new _ _ _
  have hgr := gright g wg
  rw [decide_eq_true hg] at hgr
  have hbnd := geo_bounds hg
  obtain ⟨l1, l2, l3, l4, l5⟩ := gsizes_le hg.1
  have hm := hg.2.2.2.2
  obtain ⟨x, hx'⟩ : ∃ x, x = g.x := ⟨_, rfl⟩
  obtain ⟨y, hy'⟩ : ∃ y, y = g.y := ⟨_, rfl⟩
  obtain ⟨z, hz'⟩ : ∃ z, z = g.z := ⟨_, rfl⟩
  obtain ⟨d, hd⟩ : ∃ d, d = g.b / 64 := ⟨_, rfl⟩
  unfold Geo.at0 Geo.at1
  rw [← hx', ← hy', ← hz'] at hbnd
  rw [← hx', ← hy', ← hd]
  rw [← hd] at l3 l4 l5
  have t64 : g.b.tdiv 64 = d := by rw [hd]; exact Int.tdiv_eq_ediv_of_nonneg (by omega)
  have w64 : IntKind.i64.wrap d = d := IntWalk.i64_in _ (by omega)
  have hd0 : ¬ d = 0 := by omega
  obtain ⟨q, hq⟩ : ∃ q, q = (i - 1) / d := ⟨_, rfl⟩
  obtain ⟨r, hr⟩ : ∃ r, r = (i - 1) % d := ⟨_, rfl⟩
  have hq0 : 0 ≤ q := by rw [hq]; exact Int.ediv_nonneg (by omega) (by omega)
  have hq1 : q ≤ i - 1 := by rw [hq]; exact Int.ediv_le_self _ (by omega)
  have hr0 : 0 ≤ r := by rw [hr]; exact Int.emod_nonneg _ hd0
  have hr1 : r < d := by rw [hr]; exact Int.emod_lt_of_pos _ (by omega)
  have wi : IntKind.i64.wrap (i - 1) = i - 1 := IntWalk.i64_in _ (by omega)
  have tq : (i - 1).tdiv d = q := by rw [hq]; exact Int.tdiv_eq_ediv_of_nonneg (by omega)
  have wq : IntKind.i64.wrap q = q := IntWalk.i64_in _ (by omega)
  have tr : (i - 1).tmod d = r := by rw [hr]; exact Int.tmod_eq_emod_of_nonneg (by omega)
  have wr : IntKind.i64.wrap r = r := IntWalk.i64_in _ (by omega)
  have wr64 : IntKind.i64.wrap (r * 64) = r * 64 := IntWalk.i64_in _ (by omega)
  have wsum : IntKind.i64.wrap (1 + x + y + q) = 1 + x + y + q := IntWalk.i64_in _ (by omega)
  rw [← hq, ← hr]
  have i1 : ¬ i < 1 := by omega
  have i2 : ¬ i > g.m := by omega
  unfold Geo.val at hgr ⊢
  have c0 := hbg.cell 0
  have c1 := hbg.cell 1
  have c2 := hbg.cell 2
  simp at c0 c1 c2
  have Hkg := Lib.hid hkg
  have Hbg := Lib.hid hbg
  have Hgr := Lib.hid hgr
  have Hx' := Lib.hid hx'
  have Hy' := Lib.hid hy'
  have Hz' := Lib.hid hz'
  have Hbnd := Lib.hid hbnd
  have Hd := Lib.hid hd
  have Hq := Lib.hid hq
  have Hr := Lib.hid hr
  have Hg := Lib.hid hg
  clear hkg hbg hgr hx' hy' hz' hbnd hd hq hr hg
  go_enter Try.func38, Try.ntmps38
  go_wp2_with fail
  rw [← hwg]
  refine Hgr.out.mono ?_
  rintro e w1 ⟨rfl, hk1⟩
  have hb1 := Hbg.out.keep hk1 (fun h => h)
  have hkw1 := Hkg.out.more hk1
  clear c0 c1 c2
  have c0 := hb1.cell 0
  have c1 := hb1.cell 1
  have c2 := hb1.cell 2
  simp at c0 c1 c2
  have r0 : ∀ w', Keeps nowhere w1.drew w' → w'.cell? ⟨w.heap.size, 0, none⟩ = some (.int .i64 g.b) := fun w' hs => by simpa using (hb1.drew.keep hs (fun h => h)).cell 0
  have r1 : ∀ w', Keeps nowhere w1.drew w' → w'.cell? ⟨w.heap.size, 1, none⟩ = some (.int .i64 g.n) := fun w' hs => by simpa using (hb1.drew.keep hs (fun h => h)).cell 1
  have r2 : ∀ w', Keeps nowhere w1.drew w' → w'.cell? ⟨w.heap.size, 2, none⟩ = some (.int .i64 g.m) := fun w' hs => by simpa using (hb1.drew.keep hs (fun h => h)).cell 2
  have hgp := gparts g w1.drew
  rw [partsV, if_pos Hg.out, ← Hx'.out, ← Hy'.out, ← Hz'.out] at hgp
  unfold partsC Geo.val at hgp
  have hix : ∀ w, (Instr.index 71 (.agg #[.int .i64 0, .int .i64 1, .int .i64 1, .int .i64 x, .int .i64 (1 + x), .int .i64 y, .int .i64 (1 + x + y), .int .i64 z]) (.int .i64 3)).run Try.prog w = .ok (.agg #[.int .i64 (1 + x + y), .int .i64 z]) w := fun _ => by kernel_rfl
  have Hk1 := Lib.hid hk1
  have Hb1 := Lib.hid hb1
  have Hkw1 := Lib.hid hkw1
  have Hwg := Lib.hid hwg
  have Hgp := Lib.hid hgp
  clear hk1 hb1 hkw1 hwg hgp
  go_wp2_with fail
  refine wp_region_script [0, 4, 5, 6, 7, 9, 10, 11, 12, 13, 2, 3, 8] [0] [.fs [0], .ps [4, 5, 6, 7, 9, 10, 11, 12, 13], .es [1] true, .ps [2, 3, 8], .es [14, 15] false] (Keeps nowhere w1.drew) rfl (by kernel_rfl) ?_
  refine wpS_fs rfl (Keeps.refl _ _) fun K hK => ?_
  simp only [List.map_cons, List.map_nil, Option.getD_some, List.getElem?_toArray, List.getElem?_cons_zero, List.getElem?_cons_succ]
  iterate 1 (first | (apply quietO_cons _ rfl; (intro w' hs; have c_0 := r0 w' hs; have c_1 := r1 w' hs; have c_2 := r2 w' hs; go_simp; rfl)) | apply quietO_skip rfl)
  refine hK _ ?_
  clear hK K
  simp only [Act.put, List.setIfInBounds_toArray, List.set_cons_zero, List.set_cons_succ]
  refine wpS_ps rfl fun K hK => ?_
  simp only [List.map_cons, List.map_nil, Option.getD_some, List.getElem?_toArray, List.getElem?_cons_zero, List.getElem?_cons_succ]
  iterate 9 (first | (apply quietO_cons _ rfl; (intro w' _; go_simp; rfl)) | apply quietO_skip rfl)
  refine hK _ ?_
  clear hK K
  simp only [Act.put, List.setIfInBounds_toArray, List.set_cons_zero, List.set_cons_succ]
  clear r0 r1 r2
  refine wpS_es rfl fun K hK => ?_
  have HK := Lib.hid hK
  clear hK
  simp only [List.map_cons, List.map_nil, Option.getD_some, List.getElem?_toArray, List.getElem?_cons_zero, List.getElem?_cons_succ]
  go_wp2_with fail
  refine Hgp.out.mono ?_
  rintro e w2 ⟨rfl, hk2⟩
  have hkw2 := Hkw1.out.drew.more hk2
  have Hk2 := Lib.hid hk2
  have Hkw2 := Lib.hid hkw2
  clear hk2 hkw2
  go_wp2_with fail
  refine HK.out _ _ (fun _ => Hk2.out) ?_
  clear HK K
  refine wpS_ps rfl fun K hK => ?_
  simp only [List.map_cons, List.map_nil, Option.getD_some, List.getElem?_toArray, List.getElem?_cons_zero, List.getElem?_cons_succ]
  iterate 3 (first | (apply quietO_cons _ rfl; (intro w' _; go_simp; rfl)) | apply quietO_skip rfl)
  refine hK _ ?_
  clear hK K
  simp only [Act.put, List.setIfInBounds_toArray, List.set_cons_zero, List.set_cons_succ]
  refine wpS_es rfl fun K hK => ?_
  have HK := Lib.hid hK
  clear hK
  simp only [List.map_cons, List.map_nil, Option.getD_some, List.getElem?_toArray, List.getElem?_cons_zero, List.getElem?_cons_succ]
  go_wp2_with fail
  refine HK.out _ _ (fun h => by cases h) ?_
  clear HK K
  refine wpS_nil ?_
  go_wp2_with fail
  go_ret2
  exact ⟨rfl, Hkw2.out⟩
end Go.Proofs.Ytblmbchjafffbaa
