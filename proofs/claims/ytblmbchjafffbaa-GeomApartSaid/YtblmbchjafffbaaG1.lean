/-
  geom: Parts.
-/
import Derived.Test.YtblmbchjafffbaaG0
namespace Go.Proofs.Ytblmbchjafffbaa
open Go.RowKit

def fillP (w : World) (b : Nat) (v0 v1 v2 v3 v4 v5 v6 v7 : Int) : World := ((((((((w.setCell ⟨b, 0, none⟩ (.int .i64 v0)).setCell ⟨b, 1, none⟩ (.int .i64 v1)).setCell ⟨b, 2, none⟩ (.int .i64 v2)).setCell ⟨b, 3, none⟩ (.int .i64 v3)).setCell ⟨b, 4, none⟩ (.int .i64 v4)).setCell ⟨b, 5, none⟩ (.int .i64 v5)).setCell ⟨b, 6, none⟩ (.int .i64 v6)).setCell ⟨b, 7, none⟩ (.int .i64 v7))
theorem fillP_blk {w : World} {b t : Nat} {a0 a1 a2 a3 a4 a5 a6 a7 : Value} {v0 v1 v2 v3 v4 v5 v6 v7 : Int} (h : Blk w b t #[a0, a1, a2, a3, a4, a5, a6, a7]) : Blk (fillP w b v0 v1 v2 v3 v4 v5 v6 v7) b t #[.int .i64 v0, .int .i64 v1, .int .i64 v2, .int .i64 v3, .int .i64 v4, .int .i64 v5, .int .i64 v6, .int .i64 v7] := by
  have h2 := ((((((((h.set_ 0 (.int .i64 v0)).set_ 1 (.int .i64 v1)).set_ 2 (.int .i64 v2)).set_ 3 (.int .i64 v3)).set_ 4 (.int .i64 v4)).set_ 5 (.int .i64 v5)).set_ 6 (.int .i64 v6)).set_ 7 (.int .i64 v7))
  unfold fillP
  simpa using h2
theorem fillP_keeps {S : Nat → Prop} {w0 w : World} {b : Nat} {v0 v1 v2 v3 v4 v5 v6 v7 : Int} (hk : Keeps S w0 w) (hb : b < w0.heap.size → S b) : Keeps S w0 (fillP w b v0 v1 v2 v3 v4 v5 v6 v7) := ((((((((hk.setCell (p := ⟨b, 0, none⟩) hb (.int .i64 v0)).setCell (p := ⟨b, 1, none⟩) hb (.int .i64 v1)).setCell (p := ⟨b, 2, none⟩) hb (.int .i64 v2)).setCell (p := ⟨b, 3, none⟩) hb (.int .i64 v3)).setCell (p := ⟨b, 4, none⟩) hb (.int .i64 v4)).setCell (p := ⟨b, 5, none⟩) hb (.int .i64 v5)).setCell (p := ⟨b, 6, none⟩) hb (.int .i64 v6)).setCell (p := ⟨b, 7, none⟩) hb (.int .i64 v7))

def nP (x y z : Int) : Nat → Int
  | 0 => 1
  | 1 => x
  | 2 => y
  | _ => z
def aP (x y z : Int) : Nat → Int
  | 0 => 0
  | 1 => 1
  | 2 => 1 + x
  | 3 => 1 + x + y
  | _ => 1 + x + y + z
def pv (j k : Nat) (v : Int) : Value := .int .i64 (if j < k then v else 0)
def partP (x y z : Int) (k : Nat) : Array Value := #[pv 0 k 0, pv 0 k 1, pv 1 k 1, pv 1 k x, pv 2 k (1 + x), pv 2 k y, pv 3 k (1 + x + y), pv 3 k z]
theorem partP_set (x y z : Int) (k : Nat) (hk : k < 4) : ((partP x y z k).setIfInBounds (k * 2) (.int .i64 (aP x y z k))).setIfInBounds (k * 2 + 1) (.int .i64 (nP x y z k)) = partP x y z (k + 1) := by
  match k, hk with
  | 0, _ => simp [partP, pv, aP, nP]
  | 1, _ => simp [partP, pv, aP, nP]
  | 2, _ => simp [partP, pv, aP, nP]
  | 3, _ => simp [partP, pv, aP, nP]
theorem partP_get (x y z : Int) (k : Nat) (hk : k < 4) : (partP x y z k)[k * 2]? = some (.int .i64 0) ∧ (partP x y z k)[k * 2 + 1]? = some (.int .i64 0) := by
  match k, hk with
  | 0, _ => simp [partP, pv]
  | 1, _ => simp [partP, pv]
  | 2, _ => simp [partP, pv]
  | 3, _ => simp [partP, pv]
theorem partP_end (x y z : Int) : partP x y z 4 = #[.int .i64 0, .int .i64 1, .int .i64 1, .int .i64 x, .int .i64 (1 + x), .int .i64 y, .int .i64 (1 + x + y), .int .i64 z] := by simp [partP, pv]
theorem aP_succ (x y z : Int) (k : Nat) (hk : k < 4) : aP x y z k + nP x y z k = aP x y z (k + 1) := by
  match k, hk with
  | 0, _ => rfl
  | 1, _ => rfl
  | 2, _ => rfl
  | 3, _ => rfl

def Geo.x (g : Geo) : Int := (g.n + 8 * g.b - 1) / (8 * g.b)
def Geo.y (g : Geo) : Int := (g.m + 8 * g.b - 1) / (8 * g.b)
def Geo.z (g : Geo) : Int := (g.m + g.b / 64 - 1) / (g.b / 64)
def partsC (x y z : Int) : Array Value := #[.int .i64 0, .int .i64 1, .int .i64 1, .int .i64 x, .int .i64 (1 + x), .int .i64 y, .int .i64 (1 + x + y), .int .i64 z]
def partsV (g : Geo) : Value := if g.ok then .agg (partsC g.x g.y g.z) else .agg #[.int .i64 0, .int .i64 0, .int .i64 0, .int .i64 0, .int .i64 0, .int .i64 0, .int .i64 0, .int .i64 0]

theorem gsizes_le {b : Int} (h : b ∈ gsizes) : 64 ≤ b ∧ b ≤ 1024 ∧ 1 ≤ b / 64 ∧ b / 64 ≤ 16 ∧ b / 64 * 64 = b := by
  simp [gsizes] at h
  omega
theorem udiv_bounds (n s : Int) (hn : 0 ≤ n) (hn2 : n ≤ 65536) (hs : 1 ≤ s) (hs2 : s ≤ 8192) : 0 ≤ (n + s - 1) / s ∧ (n + s - 1) / s ≤ 100000 := by
  have hq0 : 0 ≤ (n + s - 1) / s := Int.ediv_nonneg (by omega) (by omega)
  have hq1 : (n + s - 1) / s ≤ n + s - 1 := Int.ediv_le_self _ (by omega)
  omega
theorem geo_bounds {g : Geo} (h : g.ok) : 0 ≤ g.x ∧ g.x ≤ 100000 ∧ 0 ≤ g.y ∧ g.y ≤ 100000 ∧ 0 ≤ g.z ∧ g.z ≤ 100000 := by
  obtain ⟨h1, h2, h3, h4, h5⟩ := h
  obtain ⟨b1, b2, b3, b4, -⟩ := gsizes_le h1
  have hx := udiv_bounds g.n (8 * g.b) (by omega) (by omega) (by omega) (by omega)
  have hy := udiv_bounds g.m (8 * g.b) (by omega) (by omega) (by omega) (by omega)
  have hz := udiv_bounds g.m (g.b / 64) (by omega) (by omega) (by omega) (by omega)
  exact ⟨hx.1, hx.2, hy.1, hy.2, hz.1, hz.2⟩

set_option maxHeartbeats 3200000 in
set_option maxRecDepth 20000 in
theorem gparts (g : Geo) (w : World) : Calls Try.prog 37 #[g.val] w fun e w' => e = .returned (partsV g) ∧ Keeps nowhere w w' := by
  obtain ⟨wg, hwg⟩ : ∃ wg, wg = w.alloc (.cells #[.int .i64 g.b, .int .i64 g.n, .int .i64 g.m] 60) := ⟨_, rfl⟩
  have hkg : Keeps nowhere w wg := by rw [hwg]; exact (Keeps.refl _ _).alloc _
  have hbg : Blk wg w.heap.size 60 #[.int .i64 g.b, .int .i64 g.n, .int .i64 g.m] := by rw [hwg]; exact Blk.new _ _ _
  have hszg : wg.heap.size = w.heap.size + 1 := by rw [hwg]; simp
  obtain ⟨wa, hwa⟩ : ∃ wa, wa = wg.alloc (.cells #[.int .i64 0, .int .i64 0, .int .i64 0, .int .i64 0, .int .i64 0, .int .i64 0, .int .i64 0, .int .i64 0] 71) := ⟨_, rfl⟩
  have hka : Keeps nowhere w wa := by rw [hwa]; exact hkg.alloc _
  have hba : Blk wa w.heap.size 60 #[.int .i64 g.b, .int .i64 g.n, .int .i64 g.m] := by rw [hwa]; exact hbg.alloc _
  have hra : Blk wa (w.heap.size + 1) 71 #[.int .i64 0, .int .i64 0, .int .i64 0, .int .i64 0, .int .i64 0, .int .i64 0, .int .i64 0, .int .i64 0] := by rw [hwa, ← hszg]; exact Blk.new _ _ _
  have hgr := gright g wa
  unfold Geo.val at hgr ⊢
  have c0 := hba.cell 0
  have c1 := hba.cell 1
  have c2 := hba.cell 2
  simp at c0 c1 c2
  have Hkg := Lib.hid hkg
  have Hbg := Lib.hid hbg
  have Hka := Lib.hid hka
  have Hba := Lib.hid hba
  have Hra := Lib.hid hra
  have Hgr := Lib.hid hgr
  clear hkg hbg hka hba hra hgr
  go_enter Try.func37, Try.ntmps37
  go_wp2_with fail
  rw [← hwg, ← hwa]
  refine Hgr.out.mono ?_
  rintro e w1 ⟨rfl, hk1⟩
  have hb1 := Hba.out.keep hk1 (fun h => h)
  have hr1 := Hra.out.keep hk1 (fun h => h)
  have hkw1 := Hka.out.more hk1
  have hsz1 : w.heap.size + 2 ≤ w1.heap.size := by have := hk1.size; rw [hwa] at this; simp at this; omega
  obtain ⟨R, hR⟩ : ∃ R, R = decide g.ok := ⟨_, rfl⟩
  rw [← hR]
  have c0 := hb1.cell 0
  have c1 := hb1.cell 1
  have c2 := hb1.cell 2
  simp at c0 c1 c2
  by_cases hg : g.ok
  · have hR1 : R = true := by rw [hR, decide_eq_true hg]
    subst hR1
    have hg2 := hg
    obtain ⟨k1, k2, k3, k4, k5⟩ := hg2
    obtain ⟨l1, l2, l3, l4, l5⟩ := gsizes_le k1
    have hbnd := geo_bounds hg
    obtain ⟨s8, hs8⟩ : ∃ s8, s8 = 8 * g.b := ⟨_, rfl⟩
    obtain ⟨d, hd⟩ : ∃ d, d = g.b / 64 := ⟨_, rfl⟩
    have hx : g.x = (g.n + s8 - 1) / s8 := by rw [hs8]; rfl
    have hy : g.y = (g.m + s8 - 1) / s8 := by rw [hs8]; rfl
    have hz : g.z = (g.m + d - 1) / d := by rw [hd]; rfl
    obtain ⟨x, hx'⟩ : ∃ x, x = g.x := ⟨_, rfl⟩
    obtain ⟨y, hy'⟩ : ∃ y, y = g.y := ⟨_, rfl⟩
    obtain ⟨z, hz'⟩ : ∃ z, z = g.z := ⟨_, rfl⟩
    have m8 : IntKind.i64.wrap (8 * g.b) = s8 := by rw [hs8]; exact IntWalk.i64_in _ (by omega)
    have t64 : g.b.tdiv 64 = d := by rw [hd]; exact Int.tdiv_eq_ediv_of_nonneg (by omega)
    have w64 : IntKind.i64.wrap d = d := IntWalk.i64_in _ (by omega)
    have j8 : 1 ≤ s8 ∧ s8 ≤ 8192 := by omega
    have jd : 1 ≤ d ∧ d ≤ 16 := by omega
    rw [← hx'] at hx hbnd
    rw [← hy'] at hy hbnd
    rw [← hz'] at hz hbnd
    have r0 : ∀ w', Keeps nowhere w1.drew w' → w'.cell? ⟨w.heap.size, 0, none⟩ = some (.int .i64 g.b) := fun w' hs => by simpa using (hb1.drew.keep hs (fun h => h)).cell 0
    have r1 : ∀ w', Keeps nowhere w1.drew w' → w'.cell? ⟨w.heap.size, 1, none⟩ = some (.int .i64 g.n) := fun w' hs => by simpa using (hb1.drew.keep hs (fun h => h)).cell 1
    have r2 : ∀ w', Keeps nowhere w1.drew w' → w'.cell? ⟨w.heap.size, 2, none⟩ = some (.int .i64 g.m) := fun w' hs => by simpa using (hb1.drew.keep hs (fun h => h)).cell 2
    clear c0 c1 c2 l1 l2 l3 l4 l5 k1
    have Hk1 := Lib.hid hk1
    have Hb1 := Lib.hid hb1
    have Hr1 := Lib.hid hr1
    have Hkw1 := Lib.hid hkw1
    have Hsz1 := Lib.hid hsz1
    have HR := Lib.hid hR
    have Hwg := Lib.hid hwg
    have Hwa := Lib.hid hwa
    have Hs8 := Lib.hid hs8
    have Hd := Lib.hid hd
    have Hx := Lib.hid hx
    have Hy := Lib.hid hy
    have Hz := Lib.hid hz
    have Hx' := Lib.hid hx'
    have Hy' := Lib.hid hy'
    have Hz' := Lib.hid hz'
    have Hbnd := Lib.hid hbnd
    have Hg := Lib.hid hg
    clear hk1 hb1 hr1 hkw1 hsz1 hR hwg hwa hs8 hd hx hy hz hx' hy' hz' hbnd hg
    go_upto_region 3 with fail
    go_cut [3] from 11 to 29 (fun pv wx => pv = .pointer (some ⟨w1.heap.size, 0, none⟩) ∧ Blk wx w1.heap.size 98 #[.int .i64 1, .int .i64 x, .int .i64 y, .int .i64 z] ∧ Keeps nowhere w1 wx)
    case first =>
      refine wp_region_tree [0, 1, 2, 3, 4, 6, 7, 8, 9, 10, 12, 13, 14, 15, 16] [1, 3, 7, 9, 13, 15] [.ps [0], .fs [1], .ps [2], .fs [3], .ps [4, 6], .fs [7], .ps [8], .fs [9], .ps [10, 12], .fs [13], .ps [14], .fs [15], .ps [16]] 6 #[true, true, true, true, true, false, true, true, true, true, true, false, true, true, true, true, true, false, false, false, false] (Keeps nowhere w1.drew) rfl (by kernel_rfl) (by kernel_rfl) ?_
      refine wpQ_ps rfl fun K hK => ?_
      simp only [List.map_cons, List.map_nil, Option.getD_some, List.getElem?_toArray, List.getElem?_cons_zero, List.getElem?_cons_succ]
      iterate 1 (first | (apply quietO_cons _ rfl; (intro w' _; go_simp; rfl)) | apply quietO_skip rfl)
      refine hK _ ?_
      clear hK K
      simp only [Act.put, List.setIfInBounds_toArray, List.set_cons_zero, List.set_cons_succ]
      refine wpQ_fs rfl (Keeps.refl _ _) fun K hK => ?_
      simp only [List.map_cons, List.map_nil, Option.getD_some, List.getElem?_toArray, List.getElem?_cons_zero, List.getElem?_cons_succ]
      iterate 1 (first | (apply quietO_cons _ rfl; (intro w' hs; have c_0 := r1 w' hs; go_simp; rfl)) | apply quietO_skip rfl)
      refine hK _ ?_
      clear hK K
      simp only [Act.put, List.setIfInBounds_toArray, List.set_cons_zero, List.set_cons_succ]
      refine wpQ_ps rfl fun K hK => ?_
      simp only [List.map_cons, List.map_nil, Option.getD_some, List.getElem?_toArray, List.getElem?_cons_zero, List.getElem?_cons_succ]
      iterate 1 (first | (apply quietO_cons _ rfl; (intro w' _; go_simp; rfl)) | apply quietO_skip rfl)
      refine hK _ ?_
      clear hK K
      simp only [Act.put, List.setIfInBounds_toArray, List.set_cons_zero, List.set_cons_succ]
      refine wpQ_fs rfl (Keeps.refl _ _) fun K hK => ?_
      simp only [List.map_cons, List.map_nil, Option.getD_some, List.getElem?_toArray, List.getElem?_cons_zero, List.getElem?_cons_succ]
      iterate 1 (first | (apply quietO_cons _ rfl; (intro w' hs; have c_0 := r0 w' hs; go_simp; rfl)) | apply quietO_skip rfl)
      refine hK _ ?_
      clear hK K
      simp only [Act.put, List.setIfInBounds_toArray, List.set_cons_zero, List.set_cons_succ]
      refine wpQ_ps rfl fun K hK => ?_
      simp only [List.map_cons, List.map_nil, Option.getD_some, List.getElem?_toArray, List.getElem?_cons_zero, List.getElem?_cons_succ]
      iterate 2 (first | (apply quietO_cons _ rfl; (intro w' _; go_simp; rfl)) | apply quietO_skip rfl)
      refine hK _ ?_
      clear hK K
      simp only [Act.put, List.setIfInBounds_toArray, List.set_cons_zero, List.set_cons_succ]
      refine wpQ_fs rfl (Keeps.refl _ _) fun K hK => ?_
      simp only [List.map_cons, List.map_nil, Option.getD_some, List.getElem?_toArray, List.getElem?_cons_zero, List.getElem?_cons_succ]
      iterate 1 (first | (apply quietO_cons _ rfl; (intro w' hs; have c_0 := r2 w' hs; go_simp; rfl)) | apply quietO_skip rfl)
      refine hK _ ?_
      clear hK K
      simp only [Act.put, List.setIfInBounds_toArray, List.set_cons_zero, List.set_cons_succ]
      refine wpQ_ps rfl fun K hK => ?_
      simp only [List.map_cons, List.map_nil, Option.getD_some, List.getElem?_toArray, List.getElem?_cons_zero, List.getElem?_cons_succ]
      iterate 1 (first | (apply quietO_cons _ rfl; (intro w' _; go_simp; rfl)) | apply quietO_skip rfl)
      refine hK _ ?_
      clear hK K
      simp only [Act.put, List.setIfInBounds_toArray, List.set_cons_zero, List.set_cons_succ]
      refine wpQ_fs rfl (Keeps.refl _ _) fun K hK => ?_
      simp only [List.map_cons, List.map_nil, Option.getD_some, List.getElem?_toArray, List.getElem?_cons_zero, List.getElem?_cons_succ]
      iterate 1 (first | (apply quietO_cons _ rfl; (intro w' hs; have c_0 := r0 w' hs; go_simp; rfl)) | apply quietO_skip rfl)
      refine hK _ ?_
      clear hK K
      simp only [Act.put, List.setIfInBounds_toArray, List.set_cons_zero, List.set_cons_succ]
      refine wpQ_ps rfl fun K hK => ?_
      simp only [List.map_cons, List.map_nil, Option.getD_some, List.getElem?_toArray, List.getElem?_cons_zero, List.getElem?_cons_succ]
      iterate 2 (first | (apply quietO_cons _ rfl; (intro w' _; go_simp; rfl)) | apply quietO_skip rfl)
      refine hK _ ?_
      clear hK K
      simp only [Act.put, List.setIfInBounds_toArray, List.set_cons_zero, List.set_cons_succ]
      refine wpQ_fs rfl (Keeps.refl _ _) fun K hK => ?_
      simp only [List.map_cons, List.map_nil, Option.getD_some, List.getElem?_toArray, List.getElem?_cons_zero, List.getElem?_cons_succ]
      iterate 1 (first | (apply quietO_cons _ rfl; (intro w' hs; have c_0 := r2 w' hs; go_simp; rfl)) | apply quietO_skip rfl)
      refine hK _ ?_
      clear hK K
      simp only [Act.put, List.setIfInBounds_toArray, List.set_cons_zero, List.set_cons_succ]
      refine wpQ_ps rfl fun K hK => ?_
      simp only [List.map_cons, List.map_nil, Option.getD_some, List.getElem?_toArray, List.getElem?_cons_zero, List.getElem?_cons_succ]
      iterate 1 (first | (apply quietO_cons _ rfl; (intro w' _; go_simp; rfl)) | apply quietO_skip rfl)
      refine hK _ ?_
      clear hK K
      simp only [Act.put, List.setIfInBounds_toArray, List.set_cons_zero, List.set_cons_succ]
      refine wpQ_fs rfl (Keeps.refl _ _) fun K hK => ?_
      simp only [List.map_cons, List.map_nil, Option.getD_some, List.getElem?_toArray, List.getElem?_cons_zero, List.getElem?_cons_succ]
      iterate 1 (first | (apply quietO_cons _ rfl; (intro w' hs; have c_0 := r0 w' hs; go_simp; rfl)) | apply quietO_skip rfl)
      refine hK _ ?_
      clear hK K
      simp only [Act.put, List.setIfInBounds_toArray, List.set_cons_zero, List.set_cons_succ]
      refine wpQ_ps rfl fun K hK => ?_
      simp only [List.map_cons, List.map_nil, Option.getD_some, List.getElem?_toArray, List.getElem?_cons_zero, List.getElem?_cons_succ]
      iterate 1 (first | (apply quietO_cons _ rfl; (intro w' _; go_simp; rfl)) | apply quietO_skip rfl)
      refine hK _ ?_
      clear hK K
      simp only [Act.put, List.setIfInBounds_toArray, List.set_cons_zero, List.set_cons_succ]
      clear r0 r1 r2
      refine wpQ_nil ?_
      refine tree_step [(5, true), (19, true)] (by kernel_rfl) (by simp) (by kernel_rfl) ?_
      intro r hr
      simp only [List.mem_cons, List.not_mem_nil, or_false] at hr
      rcases hr with rfl | rfl
      · refine tree_op rfl rfl fun K hK => ?_
        have HK := Lib.hid hK
        clear hK
        simp only [Option.getD_some, List.getElem?_toArray, List.getElem?_cons_zero, List.getElem?_cons_succ]
        go_wp2_with fail
        refine (gupto g.n s8 (by omega) (by omega) (by omega) (by omega) _).mono ?_
        rintro e wt ⟨rfl, rfl⟩
        rw [← Hx.out]
        go_wp2_with fail
        refine HK.out _ _ (fun _ => Keeps.refl nowhere _) ?_
        clear HK K
        refine tree_step [(11, true), (19, true)] (by kernel_rfl) (by simp) (by kernel_rfl) ?_
        intro r hr
        simp only [List.mem_cons, List.not_mem_nil, or_false] at hr
        rcases hr with rfl | rfl
        · refine tree_op rfl rfl fun K hK => ?_
          have HK := Lib.hid hK
          clear hK
          simp only [Option.getD_some, List.getElem?_toArray, List.getElem?_cons_zero, List.getElem?_cons_succ]
          go_wp2_with fail
          refine (gupto g.m s8 (by omega) (by omega) (by omega) (by omega) _).mono ?_
          rintro e wt ⟨rfl, rfl⟩
          rw [← Hy.out]
          go_wp2_with fail
          refine HK.out _ _ (fun _ => Keeps.refl nowhere _) ?_
          clear HK K
          refine tree_step [(17, false), (19, true)] (by kernel_rfl) (by simp) (by kernel_rfl) ?_
          intro r hr
          simp only [List.mem_cons, List.not_mem_nil, or_false] at hr
          rcases hr with rfl | rfl
          · refine tree_op rfl rfl fun K hK => ?_
            have HK := Lib.hid hK
            clear hK
            simp only [Option.getD_some, List.getElem?_toArray, List.getElem?_cons_zero, List.getElem?_cons_succ]
            go_wp2_with fail
            refine (gupto g.m d (by omega) (by omega) (by omega) (by omega) _).mono ?_
            rintro e wt ⟨rfl, rfl⟩
            rw [← Hz.out]
            go_wp2_with fail
            refine HK.out _ _ (fun h => by cases h) ?_
            clear HK K
            refine tree_step [(18, false), (19, false)] (by kernel_rfl) (by simp) (by kernel_rfl) ?_
            intro r hr
            simp only [List.mem_cons, List.not_mem_nil, or_false] at hr
            rcases hr with rfl | rfl
            · refine tree_op rfl rfl fun K hK => ?_
              have HK := Lib.hid hK
              clear hK
              simp only [Option.getD_some, List.getElem?_toArray, List.getElem?_cons_zero, List.getElem?_cons_succ]
              go_wp2_with fail
              refine HK.out _ _ (fun h => by cases h) ?_
              clear HK K
              refine tree_step [(19, false)] (by kernel_rfl) (by simp) (by kernel_rfl) ?_
              intro r hr
              obtain rfl := List.mem_singleton.1 hr
              refine tree_op rfl rfl fun K hK => ?_
              have HK := Lib.hid hK
              clear hK
              simp only [Option.getD_some, List.getElem?_toArray, List.getElem?_cons_zero, List.getElem?_cons_succ]
              go_wp2_with fail
              refine HK.out _ _ (fun h => by cases h) ?_
              clear HK K
              refine tree_step [(20, false)] (by kernel_rfl) (by simp) (by kernel_rfl) ?_
              intro r hr
              obtain rfl := List.mem_singleton.1 hr
              refine tree_op rfl rfl fun K hK => ?_
              have HK := Lib.hid hK
              clear hK
              simp only [Option.getD_some, List.getElem?_toArray, List.getElem?_cons_zero, List.getElem?_cons_succ]
              go_wp2_with fail
              refine HK.out _ _ (fun h => by cases h) ?_
              clear HK K
              refine tree_fin (by kernel_rfl) ?_
              go_wp2_with fail
              go_meet
              case rel => exact ⟨rfl, Blk.new w1.drew _ _, ((Keeps.refl nowhere w1).drew).alloc _⟩
            · refine tree_op rfl rfl fun K hK => ?_
              have HK := Lib.hid hK
              clear hK
              simp only [Option.getD_some, List.getElem?_toArray, List.getElem?_cons_zero, List.getElem?_cons_succ]
              go_wp2_with fail
              refine HK.out _ _ (fun h => by cases h) ?_
              clear HK K
              refine tree_step [(18, false)] (by kernel_rfl) (by simp) (by kernel_rfl) ?_
              intro r hr
              obtain rfl := List.mem_singleton.1 hr
              refine tree_op rfl rfl fun K hK => ?_
              have HK := Lib.hid hK
              clear hK
              simp only [Option.getD_some, List.getElem?_toArray, List.getElem?_cons_zero, List.getElem?_cons_succ]
              go_wp2_with fail
              refine HK.out _ _ (fun h => by cases h) ?_
              clear HK K
              refine tree_step [(20, false)] (by kernel_rfl) (by simp) (by kernel_rfl) ?_
              intro r hr
              obtain rfl := List.mem_singleton.1 hr
              refine tree_op rfl rfl fun K hK => ?_
              have HK := Lib.hid hK
              clear hK
              simp only [Option.getD_some, List.getElem?_toArray, List.getElem?_cons_zero, List.getElem?_cons_succ]
              go_wp2_with fail
              refine HK.out _ _ (fun h => by cases h) ?_
              clear HK K
              refine tree_fin (by kernel_rfl) ?_
              go_wp2_with fail
              go_meet
              case rel => exact ⟨rfl, Blk.new w1.drew _ _, ((Keeps.refl nowhere w1).drew).alloc _⟩
          · refine tree_op rfl rfl fun K hK => ?_
            have HK := Lib.hid hK
            clear hK
            simp only [Option.getD_some, List.getElem?_toArray, List.getElem?_cons_zero, List.getElem?_cons_succ]
            go_wp2_with fail
            refine HK.out _ _ (fun _ => (Keeps.refl nowhere _).alloc _) ?_
            clear HK K
            refine tree_step [(17, false)] (by kernel_rfl) (by simp) (by kernel_rfl) ?_
            intro r hr
            obtain rfl := List.mem_singleton.1 hr
            refine tree_op rfl rfl fun K hK => ?_
            have HK := Lib.hid hK
            clear hK
            simp only [Option.getD_some, List.getElem?_toArray, List.getElem?_cons_zero, List.getElem?_cons_succ]
            go_wp2_with fail
            refine (gupto g.m d (by omega) (by omega) (by omega) (by omega) _).mono ?_
            rintro e wt ⟨rfl, rfl⟩
            rw [← Hz.out]
            go_wp2_with fail
            refine HK.out _ _ (fun h => by cases h) ?_
            clear HK K
            refine tree_step [(18, false)] (by kernel_rfl) (by simp) (by kernel_rfl) ?_
            intro r hr
            obtain rfl := List.mem_singleton.1 hr
            refine tree_op rfl rfl fun K hK => ?_
            have HK := Lib.hid hK
            clear hK
            simp only [Option.getD_some, List.getElem?_toArray, List.getElem?_cons_zero, List.getElem?_cons_succ]
            go_wp2_with fail
            refine HK.out _ _ (fun h => by cases h) ?_
            clear HK K
            refine tree_step [(20, false)] (by kernel_rfl) (by simp) (by kernel_rfl) ?_
            intro r hr
            obtain rfl := List.mem_singleton.1 hr
            refine tree_op rfl rfl fun K hK => ?_
            have HK := Lib.hid hK
            clear hK
            simp only [Option.getD_some, List.getElem?_toArray, List.getElem?_cons_zero, List.getElem?_cons_succ]
            go_wp2_with fail
            refine HK.out _ _ (fun h => by cases h) ?_
            clear HK K
            refine tree_fin (by kernel_rfl) ?_
            go_wp2_with fail
            go_meet
            case rel => exact ⟨rfl, Blk.new w1.drew _ _, ((Keeps.refl nowhere w1).drew).alloc _⟩
        · refine tree_op rfl rfl fun K hK => ?_
          have HK := Lib.hid hK
          clear hK
          simp only [Option.getD_some, List.getElem?_toArray, List.getElem?_cons_zero, List.getElem?_cons_succ]
          go_wp2_with fail
          refine HK.out _ _ (fun _ => (Keeps.refl nowhere _).alloc _) ?_
          clear HK K
          refine tree_step [(11, true)] (by kernel_rfl) (by simp) (by kernel_rfl) ?_
          intro r hr
          obtain rfl := List.mem_singleton.1 hr
          refine tree_op rfl rfl fun K hK => ?_
          have HK := Lib.hid hK
          clear hK
          simp only [Option.getD_some, List.getElem?_toArray, List.getElem?_cons_zero, List.getElem?_cons_succ]
          go_wp2_with fail
          refine (gupto g.m s8 (by omega) (by omega) (by omega) (by omega) _).mono ?_
          rintro e wt ⟨rfl, rfl⟩
          rw [← Hy.out]
          go_wp2_with fail
          refine HK.out _ _ (fun _ => (Keeps.refl nowhere _).alloc _) ?_
          clear HK K
          refine tree_step [(17, false)] (by kernel_rfl) (by simp) (by kernel_rfl) ?_
          intro r hr
          obtain rfl := List.mem_singleton.1 hr
          refine tree_op rfl rfl fun K hK => ?_
          have HK := Lib.hid hK
          clear hK
          simp only [Option.getD_some, List.getElem?_toArray, List.getElem?_cons_zero, List.getElem?_cons_succ]
          go_wp2_with fail
          refine (gupto g.m d (by omega) (by omega) (by omega) (by omega) _).mono ?_
          rintro e wt ⟨rfl, rfl⟩
          rw [← Hz.out]
          go_wp2_with fail
          refine HK.out _ _ (fun h => by cases h) ?_
          clear HK K
          refine tree_step [(18, false)] (by kernel_rfl) (by simp) (by kernel_rfl) ?_
          intro r hr
          obtain rfl := List.mem_singleton.1 hr
          refine tree_op rfl rfl fun K hK => ?_
          have HK := Lib.hid hK
          clear hK
          simp only [Option.getD_some, List.getElem?_toArray, List.getElem?_cons_zero, List.getElem?_cons_succ]
          go_wp2_with fail
          refine HK.out _ _ (fun h => by cases h) ?_
          clear HK K
          refine tree_step [(20, false)] (by kernel_rfl) (by simp) (by kernel_rfl) ?_
          intro r hr
          obtain rfl := List.mem_singleton.1 hr
          refine tree_op rfl rfl fun K hK => ?_
          have HK := Lib.hid hK
          clear hK
          simp only [Option.getD_some, List.getElem?_toArray, List.getElem?_cons_zero, List.getElem?_cons_succ]
          go_wp2_with fail
          refine HK.out _ _ (fun h => by cases h) ?_
          clear HK K
          refine tree_fin (by kernel_rfl) ?_
          go_wp2_with fail
          go_meet
          case rel => exact ⟨rfl, Blk.new w1.drew _ _, ((Keeps.refl nowhere w1).drew).alloc _⟩
      · refine tree_op rfl rfl fun K hK => ?_
        have HK := Lib.hid hK
        clear hK
        simp only [Option.getD_some, List.getElem?_toArray, List.getElem?_cons_zero, List.getElem?_cons_succ]
        go_wp2_with fail
        refine HK.out _ _ (fun _ => (Keeps.refl nowhere _).alloc _) ?_
        clear HK K
        refine tree_step [(5, true)] (by kernel_rfl) (by simp) (by kernel_rfl) ?_
        intro r hr
        obtain rfl := List.mem_singleton.1 hr
        refine tree_op rfl rfl fun K hK => ?_
        have HK := Lib.hid hK
        clear hK
        simp only [Option.getD_some, List.getElem?_toArray, List.getElem?_cons_zero, List.getElem?_cons_succ]
        go_wp2_with fail
        refine (gupto g.n s8 (by omega) (by omega) (by omega) (by omega) _).mono ?_
        rintro e wt ⟨rfl, rfl⟩
        rw [← Hx.out]
        go_wp2_with fail
        refine HK.out _ _ (fun _ => (Keeps.refl nowhere _).alloc _) ?_
        clear HK K
        refine tree_step [(11, true)] (by kernel_rfl) (by simp) (by kernel_rfl) ?_
        intro r hr
        obtain rfl := List.mem_singleton.1 hr
        refine tree_op rfl rfl fun K hK => ?_
        have HK := Lib.hid hK
        clear hK
        simp only [Option.getD_some, List.getElem?_toArray, List.getElem?_cons_zero, List.getElem?_cons_succ]
        go_wp2_with fail
        refine (gupto g.m s8 (by omega) (by omega) (by omega) (by omega) _).mono ?_
        rintro e wt ⟨rfl, rfl⟩
        rw [← Hy.out]
        go_wp2_with fail
        refine HK.out _ _ (fun _ => (Keeps.refl nowhere _).alloc _) ?_
        clear HK K
        refine tree_step [(17, false)] (by kernel_rfl) (by simp) (by kernel_rfl) ?_
        intro r hr
        obtain rfl := List.mem_singleton.1 hr
        refine tree_op rfl rfl fun K hK => ?_
        have HK := Lib.hid hK
        clear hK
        simp only [Option.getD_some, List.getElem?_toArray, List.getElem?_cons_zero, List.getElem?_cons_succ]
        go_wp2_with fail
        refine (gupto g.m d (by omega) (by omega) (by omega) (by omega) _).mono ?_
        rintro e wt ⟨rfl, rfl⟩
        rw [← Hz.out]
        go_wp2_with fail
        refine HK.out _ _ (fun h => by cases h) ?_
        clear HK K
        refine tree_step [(18, false)] (by kernel_rfl) (by simp) (by kernel_rfl) ?_
        intro r hr
        obtain rfl := List.mem_singleton.1 hr
        refine tree_op rfl rfl fun K hK => ?_
        have HK := Lib.hid hK
        clear hK
        simp only [Option.getD_some, List.getElem?_toArray, List.getElem?_cons_zero, List.getElem?_cons_succ]
        go_wp2_with fail
        refine HK.out _ _ (fun h => by cases h) ?_
        clear HK K
        refine tree_step [(20, false)] (by kernel_rfl) (by simp) (by kernel_rfl) ?_
        intro r hr
        obtain rfl := List.mem_singleton.1 hr
        refine tree_op rfl rfl fun K hK => ?_
        have HK := Lib.hid hK
        clear hK
        simp only [Option.getD_some, List.getElem?_toArray, List.getElem?_cons_zero, List.getElem?_cons_succ]
        go_wp2_with fail
        refine HK.out _ _ (fun h => by cases h) ?_
        clear HK K
        refine tree_fin (by kernel_rfl) ?_
        go_wp2_with fail
        go_meet
        case rel => exact ⟨rfl, Blk.new w1.drew _ _, ((Keeps.refl nowhere w1).drew).alloc _⟩
    case rest =>
      obtain ⟨rfl, hbN, hkN⟩ := hcut
      obtain ⟨wb, hwb⟩ : ∃ wb, wb = wc := ⟨_, rfl⟩
      subst hwb
      have hkwb := Hkw1.out.more hkN
      have hrb := Hr1.out.keep hkN (fun h => h)
      have hszb := hbN.lt
      obtain ⟨p3, hp3⟩ : ∃ p3, p3 = w1.heap.size := ⟨_, rfl⟩
      rw [← hp3] at hbN ⊢
      obtain ⟨wq, hwq⟩ : ∃ wq, wq = wb.alloc (.cells (partP x y z 0) 71) := ⟨_, rfl⟩
      have hq := hwq
      rw [show partP x y z 0 = #[.int .i64 0, .int .i64 0, .int .i64 0, .int .i64 0, .int .i64 0, .int .i64 0, .int .i64 0, .int .i64 0] from by simp [partP, pv]] at hq
      have hbq : Blk wq wb.heap.size 71 (partP x y z 0) := by rw [hwq]; exact Blk.new _ _ _
      have hbNq : Blk wq p3 98 #[.int .i64 1, .int .i64 x, .int .i64 y, .int .i64 z] := by rw [hwq]; exact hbN.alloc _
      have hkq : Keeps nowhere w wq := by rw [hwq]; exact hkwb.alloc _
      have hrq := hrb.alloc (.cells (partP x y z 0) 71)
      rw [← hwq] at hrq
      obtain ⟨p4, hp4⟩ : ∃ p4, p4 = wb.heap.size := ⟨_, rfl⟩
      rw [← hp4] at hbq
      have hlt34 : p3 < p4 := by rw [hp3, hp4]; exact hszb
      have hlt4 : w.heap.size + 2 ≤ p4 := by have := Hsz1.out; omega
      have hcell : ∀ k, k < 4 → ∀ w', Blk w' p3 98 #[.int .i64 1, .int .i64 x, .int .i64 y, .int .i64 z] → w'.cell? ⟨p3, k, none⟩ = some (.int .i64 (nP x y z k)) := fun k hk w' hb => by
        match k, hk with
        | 0, _ => exact hb.cell 0
        | 1, _ => exact hb.cell 1
        | 2, _ => exact hb.cell 2
        | 3, _ => exact hb.cell 3
      have hab : ∀ k, k ≤ 4 → 0 ≤ aP x y z k ∧ aP x y z k ≤ 300001 := fun k hk => by
        obtain ⟨b1, b2, b3, b4, b5, b6⟩ := Hbnd.out
        match k, hk with
        | 0, _ => simp [aP]
        | 1, _ => simp [aP]
        | 2, _ => simp only [aP]; omega
        | 3, _ => simp only [aP]; omega
        | 4, _ => simp only [aP]; omega
      have HbN := Lib.hid hbN
      have HkN := Lib.hid hkN
      have Hkwb := Lib.hid hkwb
      have Hrb := Lib.hid hrb
      have Hszb := Lib.hid hszb
      have Hwq := Lib.hid hwq
      have Hbq := Lib.hid hbq
      have HbNq := Lib.hid hbNq
      have Hkq := Lib.hid hkq
      have Hrq := Lib.hid hrq
      have Hcell := Lib.hid hcell
      have Hp3 := Lib.hid hp3
      have Hab := Lib.hid hab
      clear hbN hkN hkwb hrb hszb hwq hbq hbNq hkq hrq hcell hp3 hab
      go_wp2_with fail
      rw [← hq, ← hp4]
      clear hq
      have Hp4 := Lib.hid hp4
      clear hp4
      go_loopw [5, 6, 30] (fun av _ kv wr => ∃ k : Nat, k ≤ 4 ∧ kv = .int .i64 k ∧ av = .int .i64 (aP x y z k) ∧ Blk wr p4 71 (partP x y z k) ∧ Keeps nowhere w wr ∧ Blk wr p3 98 #[.int .i64 1, .int .i64 x, .int .i64 y, .int .i64 z] ∧ Blk wr (w.heap.size + 1) 71 #[.int .i64 0, .int .i64 0, .int .i64 0, .int .i64 0, .int .i64 0, .int .i64 0, .int .i64 0, .int .i64 0]) (fun _ _ kv _ => 4 - (intOf kv).toNat)
      case atStart => exact ⟨0, Nat.zero_le _, rfl, rfl, Hbq.out, Hkq.out, HbNq.out, Hrq.out⟩
      case round =>
        obtain ⟨k, hk, rfl, rfl, hb4, hkr, hb3, hrz⟩ := hrel
        by_cases hlt : k < 4
        · have ck := Hcell.out k hlt wr hb3
          have hk0 : (0 : Int) ≤ k ∧ (k : Int) < 4 := by omega
          obtain ⟨a, ha⟩ : ∃ a, a = aP x y z k := ⟨_, rfl⟩
          obtain ⟨n, hn⟩ : ∃ n, n = nP x y z k := ⟨_, rfl⟩
          have hsum : IntKind.i64.wrap (a + n) = aP x y z (k + 1) := by
            rw [ha, hn, aP_succ x y z k hlt]
            have := Hab.out (k + 1) hlt
            exact IntWalk.i64_in _ (by omega)
          have hset := partP_set x y z k hlt
          obtain ⟨e0, e1⟩ := partP_get x y z k hlt
          rw [← ha, ← hn] at hset
          rw [← hn] at ck
          have d0 : wr.cell? ⟨p4, k * 2, none⟩ = some (.int .i64 0) := by rw [hb4.cell]; exact e0
          have d1 : wr.cell? ⟨p4, k * 2 + 1, none⟩ = some (.int .i64 0) := by rw [hb4.cell]; exact e1
          rw [← ha]
          have f0 : wr.frozen? ⟨p4, k * 2, none⟩ = false := hb4.frozen (k * 2)
          have d1' : (wr.setCell ⟨p4, k * 2, none⟩ (.int .i64 a)).cell? ⟨p4, k * 2 + 1, none⟩ = some (.int .i64 0) := by
            rw [World.cell?_setCell_other _ _ _ _ (fun e => by injection e with e1 e2; omega)]; exact d1
          have f1 : (wr.setCell ⟨p4, k * 2, none⟩ (.int .i64 a)).frozen? ⟨p4, k * 2 + 1, none⟩ = false := (hb4.set_ (k * 2) (.int .i64 a)).frozen (k * 2 + 1)
          obtain ⟨wv, hwv⟩ : ∃ wv, wv = (wr.setCell ⟨p4, k * 2, none⟩ (.int .i64 a)).setCell ⟨p4, k * 2 + 1, none⟩ (.int .i64 n) := ⟨_, rfl⟩
          have hko : Keeps (only p4) wr wv := by
            rw [hwv]
            exact ((Keeps.refl (only p4) wr).setCell (p := ⟨p4, k * 2, none⟩) (fun _ => rfl) _).setCell (p := ⟨p4, k * 2 + 1, none⟩) (fun _ => rfl) _
          have hb3' := hb3.keep hko (fun e => by unfold only at e; omega)
          have hrz' := hrz.keep hko (fun e => by unfold only at e; omega)
          have hkr' : Keeps nowhere w wv := by
            rw [hwv]
            exact (hkr.setCell (p := ⟨p4, k * 2, none⟩) (fun h => by simp only at h; omega) _).setCell (p := ⟨p4, k * 2 + 1, none⟩) (fun h => by simp only at h; omega) _
          have hb4' : Blk wv p4 71 (partP x y z (k + 1)) := by
            rw [hwv, ← hset]
            exact (hb4.set_ (k * 2) _).set_ (k * 2 + 1) _
          have ck2 := Hcell.out k hlt wv hb3'
          rw [← hn, hwv] at ck2
          clear e0 e1 d1
          have Hb4 := Lib.hid hb4
          have Hkr := Lib.hid hkr
          have Hb3 := Lib.hid hb3
          have Hrz := Lib.hid hrz
          have Hset := Lib.hid hset
          have Ha := Lib.hid ha
          have Hn := Lib.hid hn
          have Hwv := Lib.hid hwv
          have Hko := Lib.hid hko
          have Hb3' := Lib.hid hb3'
          have Hrz' := Lib.hid hrz'
          have Hkr' := Lib.hid hkr'
          have Hb4' := Lib.hid hb4'
          clear hb4 hkr hb3 hrz hset ha hn hwv hko hb3' hrz' hkr' hb4'
          go_wp2_with fail
          rw [← Hwv.out]
          go_roundw
          case rel => exact ⟨k + 1, by omega, by go_num, rfl, Hb4'.out, Hkr'.out, Hb3'.out, Hrz'.out⟩
          case measure => simp [intOf]; omega
        · obtain rfl : k = 4 := by omega
          rw [partP_end] at hb4
          have c0 : wr.cell? ⟨p4, 0, none⟩ = some (.int .i64 (0)) := hb4.cell 0
          have c1 : wr.cell? ⟨p4, 1, none⟩ = some (.int .i64 (1)) := hb4.cell 1
          have c2 : wr.cell? ⟨p4, 2, none⟩ = some (.int .i64 (1)) := hb4.cell 2
          have c3 : wr.cell? ⟨p4, 3, none⟩ = some (.int .i64 (x)) := hb4.cell 3
          have c4 : wr.cell? ⟨p4, 4, none⟩ = some (.int .i64 (1 + x)) := hb4.cell 4
          have c5 : wr.cell? ⟨p4, 5, none⟩ = some (.int .i64 (y)) := hb4.cell 5
          have c6 : wr.cell? ⟨p4, 6, none⟩ = some (.int .i64 (1 + x + y)) := hb4.cell 6
          have c7 : wr.cell? ⟨p4, 7, none⟩ = some (.int .i64 (z)) := hb4.cell 7
          have z0 : wr.cell? ⟨w.heap.size + 1, 0, none⟩ = some (.int .i64 0) := hrz.cell 0
          have z1 : wr.cell? ⟨w.heap.size + 1, 1, none⟩ = some (.int .i64 0) := hrz.cell 1
          have z2 : wr.cell? ⟨w.heap.size + 1, 2, none⟩ = some (.int .i64 0) := hrz.cell 2
          have z3 : wr.cell? ⟨w.heap.size + 1, 3, none⟩ = some (.int .i64 0) := hrz.cell 3
          have z4 : wr.cell? ⟨w.heap.size + 1, 4, none⟩ = some (.int .i64 0) := hrz.cell 4
          have z5 : wr.cell? ⟨w.heap.size + 1, 5, none⟩ = some (.int .i64 0) := hrz.cell 5
          have z6 : wr.cell? ⟨w.heap.size + 1, 6, none⟩ = some (.int .i64 0) := hrz.cell 6
          have z7 : wr.cell? ⟨w.heap.size + 1, 7, none⟩ = some (.int .i64 0) := hrz.cell 7
          have fz : ∀ k, wr.frozen? ⟨w.heap.size + 1, k, none⟩ = false := fun k => hrz.frozen k
          have hbz := fillP_blk (v0 := 0) (v1 := 1) (v2 := 1) (v3 := x) (v4 := 1 + x) (v5 := y) (v6 := 1 + x + y) (v7 := z) hrz
          have hkz := fillP_keeps (v0 := 0) (v1 := 1) (v2 := 1) (v3 := x) (v4 := 1 + x) (v5 := y) (v6 := 1 + x + y) (v7 := z) (b := w.heap.size + 1) hkr (fun h => by omega)
          have hpv : partsV g = .agg #[.int .i64 0, .int .i64 1, .int .i64 1, .int .i64 x, .int .i64 (1 + x), .int .i64 y, .int .i64 (1 + x + y), .int .i64 z] := by rw [partsV, if_pos Hg.out, partsC, ← Hx'.out, ← Hy'.out, ← Hz'.out]
          have Hb4 := Lib.hid hb4
          have Hkr := Lib.hid hkr
          have Hb3 := Lib.hid hb3
          have Hrz := Lib.hid hrz
          have Hbz := Lib.hid hbz
          have Hkz := Lib.hid hkz
          have Hpv := Lib.hid hpv
          clear hb4 hkr hb3 hrz hbz hkz hpv
          go_wp2_with fail
          obtain ⟨wz, hwz⟩ : ∃ wz, wz = fillP wr (w.heap.size + 1) 0 1 1 x (1 + x) y (1 + x + y) z := ⟨_, rfl⟩
          have hwz' := hwz
          unfold fillP at hwz'
          rw [← hwz']
          have hbz := Hbz.out
          have hkz := Hkz.out
          rw [← hwz] at hbz hkz
          clear hwz hwz' z0 z1 z2 z3 z4 z5 z6 z7 Hbz Hkz c0 c1 c2 c3 c4 c5 c6 c7
          have y0 : wz.cell? ⟨w.heap.size + 1, 0, none⟩ = some (.int .i64 (0)) := hbz.cell 0
          have y1 : wz.cell? ⟨w.heap.size + 1, 1, none⟩ = some (.int .i64 (1)) := hbz.cell 1
          have y2 : wz.cell? ⟨w.heap.size + 1, 2, none⟩ = some (.int .i64 (1)) := hbz.cell 2
          have y3 : wz.cell? ⟨w.heap.size + 1, 3, none⟩ = some (.int .i64 (x)) := hbz.cell 3
          have y4 : wz.cell? ⟨w.heap.size + 1, 4, none⟩ = some (.int .i64 (1 + x)) := hbz.cell 4
          have y5 : wz.cell? ⟨w.heap.size + 1, 5, none⟩ = some (.int .i64 (y)) := hbz.cell 5
          have y6 : wz.cell? ⟨w.heap.size + 1, 6, none⟩ = some (.int .i64 (1 + x + y)) := hbz.cell 6
          have y7 : wz.cell? ⟨w.heap.size + 1, 7, none⟩ = some (.int .i64 (z)) := hbz.cell 7
          refine bodyPost_ret (v := .agg #[.int .i64 0, .int .i64 1, .int .i64 1, .int .i64 x, .int .i64 (1 + x), .int .i64 y, .int .i64 (1 + x + y), .int .i64 z]) (by simp [results, Try.results37, go_sem, y0, y1, y2, y3, y4, y5, y6, y7]) rfl ?_
          exact ⟨by rw [Hpv.out], hkz⟩
  · have hR1 : R = false := by rw [hR, decide_eq_false hg]
    subst hR1
    have z0 : w1.cell? ⟨w.heap.size + 1, 0, none⟩ = some (.int .i64 0) := hr1.cell 0
    have z1 : w1.cell? ⟨w.heap.size + 1, 1, none⟩ = some (.int .i64 0) := hr1.cell 1
    have z2 : w1.cell? ⟨w.heap.size + 1, 2, none⟩ = some (.int .i64 0) := hr1.cell 2
    have z3 : w1.cell? ⟨w.heap.size + 1, 3, none⟩ = some (.int .i64 0) := hr1.cell 3
    have z4 : w1.cell? ⟨w.heap.size + 1, 4, none⟩ = some (.int .i64 0) := hr1.cell 4
    have z5 : w1.cell? ⟨w.heap.size + 1, 5, none⟩ = some (.int .i64 0) := hr1.cell 5
    have z6 : w1.cell? ⟨w.heap.size + 1, 6, none⟩ = some (.int .i64 0) := hr1.cell 6
    have z7 : w1.cell? ⟨w.heap.size + 1, 7, none⟩ = some (.int .i64 0) := hr1.cell 7
    have fz : ∀ k, w1.frozen? ⟨w.heap.size + 1, k, none⟩ = false := fun k => hr1.frozen k
    have hbz := fillP_blk (v0 := 0) (v1 := 0) (v2 := 0) (v3 := 0) (v4 := 0) (v5 := 0) (v6 := 0) (v7 := 0) hr1
    have hkz := fillP_keeps (v0 := 0) (v1 := 0) (v2 := 0) (v3 := 0) (v4 := 0) (v5 := 0) (v6 := 0) (v7 := 0) (b := w.heap.size + 1) hkw1 (fun h => by omega)
    have hpv : partsV g = .agg #[.int .i64 0, .int .i64 0, .int .i64 0, .int .i64 0, .int .i64 0, .int .i64 0, .int .i64 0, .int .i64 0] := by rw [partsV, if_neg hg]
    have Hk1 := Lib.hid hk1
    have Hb1 := Lib.hid hb1
    have Hr1 := Lib.hid hr1
    have Hkw1 := Lib.hid hkw1
    have Hsz1 := Lib.hid hsz1
    have HR := Lib.hid hR
    have Hwg := Lib.hid hwg
    have Hwa := Lib.hid hwa
    have Hbz := Lib.hid hbz
    have Hkz := Lib.hid hkz
    have Hpv := Lib.hid hpv
    clear hk1 hb1 hr1 hkw1 hsz1 hR hwg hwa hbz hkz hpv
    go_wp2_with fail
    obtain ⟨wz, hwz⟩ : ∃ wz, wz = fillP w1 (w.heap.size + 1) 0 0 0 0 0 0 0 0 := ⟨_, rfl⟩
    have hwz' := hwz
    unfold fillP at hwz'
    rw [← hwz']
    have hbz := Hbz.out
    have hkz := Hkz.out
    rw [← hwz] at hbz hkz
    clear hwz hwz' z0 z1 z2 z3 z4 z5 z6 z7 Hbz Hkz
    have y0 : wz.cell? ⟨w.heap.size + 1, 0, none⟩ = some (.int .i64 0) := hbz.cell 0
    have y1 : wz.cell? ⟨w.heap.size + 1, 1, none⟩ = some (.int .i64 0) := hbz.cell 1
    have y2 : wz.cell? ⟨w.heap.size + 1, 2, none⟩ = some (.int .i64 0) := hbz.cell 2
    have y3 : wz.cell? ⟨w.heap.size + 1, 3, none⟩ = some (.int .i64 0) := hbz.cell 3
    have y4 : wz.cell? ⟨w.heap.size + 1, 4, none⟩ = some (.int .i64 0) := hbz.cell 4
    have y5 : wz.cell? ⟨w.heap.size + 1, 5, none⟩ = some (.int .i64 0) := hbz.cell 5
    have y6 : wz.cell? ⟨w.heap.size + 1, 6, none⟩ = some (.int .i64 0) := hbz.cell 6
    have y7 : wz.cell? ⟨w.heap.size + 1, 7, none⟩ = some (.int .i64 0) := hbz.cell 7
    refine bodyPost_ret (v := .agg #[.int .i64 0, .int .i64 0, .int .i64 0, .int .i64 0, .int .i64 0, .int .i64 0, .int .i64 0, .int .i64 0]) (by simp [results, Try.results37, go_sem, y0, y1, y2, y3, y4, y5, y6, y7]) rfl ?_
    exact ⟨by rw [Hpv.out], hkz⟩
end Go.Proofs.Ytblmbchjafffbaa
