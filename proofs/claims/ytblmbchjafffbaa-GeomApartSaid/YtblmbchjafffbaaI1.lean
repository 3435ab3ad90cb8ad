/-
  inode: the inode's blocks; Check.
-/
import Derived.Test.YtblmbchjafffbaaI0
namespace Go.Proofs.Ytblmbchjafffbaa
open Go.RowKit

set_option maxHeartbeats 3200000 in
set_option maxRecDepth 20000 in
theorem iblocks (i : Ino) (w : World) : Calls Try.prog 48 #[i.val] w (RetOwnW w i.blocks) := by
  obtain ⟨w1, hw1⟩ : ∃ w1, w1 = w.alloc (.cells i.cells 48) := ⟨_, rfl⟩
  have hk0 : Keeps nowhere w w1 := by rw [hw1]; exact (Keeps.refl _ _).alloc _
  have hb1 : Blk w1 w.heap.size 48 i.cells := by rw [hw1]; exact Blk.new _ _ _
  have hsub : ∀ w', Keeps nowhere w1.drew w' → Rd w' (.slice (some ⟨w.heap.size, 4, none⟩) 8 8) (some w.heap.size) (i.dir.map wv) := fun w' hs => by
    have hb := (Blk.drew hb1).keep hs (fun h => h)
    refine .inr ⟨⟨w.heap.size, 4, none⟩, 8, rfl, fun b h => by injection h with h; subst h; exact hb.lt, fun _ => ⟨rfl, rfl⟩, Nat.le_refl 8, by simp [maxLen], fun j u hj => ?_⟩
    have hj8 : j < 8 := by have := (List.getElem?_eq_some_iff.1 hj).1; simpa [Ino.dir] using this
    rw [Addr.add_lit, hb.cell]
    match j, hj8 with
    | 0, _ => simpa [Ino.dir, Ino.cells, wv] using hj
    | 1, _ => simpa [Ino.dir, Ino.cells, wv] using hj
    | 2, _ => simpa [Ino.dir, Ino.cells, wv] using hj
    | 3, _ => simpa [Ino.dir, Ino.cells, wv] using hj
    | 4, _ => simpa [Ino.dir, Ino.cells, wv] using hj
    | 5, _ => simpa [Ino.dir, Ino.cells, wv] using hj
    | 6, _ => simpa [Ino.dir, Ino.cells, wv] using hj
    | 7, _ => simpa [Ino.dir, Ino.cells, wv] using hj
  have r12 : ∀ w', Keeps nowhere w1.drew w' → w'.cell? ⟨w.heap.size, 12, none⟩ = some (.int .u32 (i.a : Int)) := fun w' hs => by simpa [Ino.cells] using ((Blk.drew hb1).keep hs (fun h => h)).cell 12
  have r13 : ∀ w', Keeps nowhere w1.drew w' → w'.cell? ⟨w.heap.size, 13, none⟩ = some (.int .u32 (i.b : Int)) := fun w' hs => by simpa [Ino.cells] using ((Blk.drew hb1).keep hs (fun h => h)).cell 13
  unfold Ino.val
  unfold Ino.cells at hw1 ⊢
  have Hk0 := Lib.hid hk0
  have Hb1 := Lib.hid hb1
  have Hsub := Lib.hid hsub
  have Hw1 := Lib.hid hw1
  clear hk0 hb1 hsub hw1
  go_enter Try.func48, Try.ntmps48
  go_wp2_with fail
  rw [← Hw1.out]
  refine wp_region_tree [0, 1, 3, 4, 5, 6] [4, 6] [.ps [0, 1, 3], .fs [4], .ps [5], .fs [6]] 4 #[true, true, false, true, true, true, true, false, false, false] (Keeps nowhere w1.drew) rfl (by kernel_rfl) (by kernel_rfl) ?_
  refine wpQ_ps rfl fun K hK => ?_
  simp only [List.map_cons, List.map_nil, Option.getD_some, List.getElem?_toArray, List.getElem?_cons_zero, List.getElem?_cons_succ]
  iterate 3 (first | (apply quietO_cons _ rfl; (intro w' _; go_simp; rfl)) | apply quietO_skip rfl)
  refine hK _ ?_
  clear hK K
  simp only [Act.put, List.setIfInBounds_toArray, List.set_cons_zero, List.set_cons_succ]
  refine wpQ_fs rfl (Keeps.refl _ _) fun K hK => ?_
  simp only [List.map_cons, List.map_nil, Option.getD_some, List.getElem?_toArray, List.getElem?_cons_zero, List.getElem?_cons_succ]
  iterate 1 (first | (apply quietO_cons _ rfl; (intro w' hs; have c_0 := r12 w' hs; go_simp; rfl)) | apply quietO_skip rfl)
  refine hK _ ?_
  clear hK K
  simp only [Act.put, List.setIfInBounds_toArray, List.set_cons_zero, List.set_cons_succ]
  refine wpQ_ps rfl fun K hK => ?_
  simp only [List.map_cons, List.map_nil, Option.getD_some, List.getElem?_toArray, List.getElem?_cons_zero, List.getElem?_cons_succ]
  iterate 1 (first | (apply quietO_cons _ rfl; (intro w' _; go_simp; rfl)) | apply quietO_skip rfl)
  refine hK _ ?_
  clear hK K
  simp only [Act.put, List.setIfInBounds_toArray, List.set_cons_zero, List.set_cons_succ]
  refine wpQ_fs rfl (Keeps.refl _ _) fun K hK => ?_
  simp only [List.map_cons, List.map_nil, Option.getD_some, List.getElem?_toArray, List.getElem?_cons_zero, List.getElem?_cons_succ]
  iterate 1 (first | (apply quietO_cons _ rfl; (intro w' hs; have c_0 := r13 w' hs; go_simp; rfl)) | apply quietO_skip rfl)
  refine hK _ ?_
  clear hK K
  simp only [Act.put, List.setIfInBounds_toArray, List.set_cons_zero, List.set_cons_succ]
  clear r12 r13
  refine wpQ_nil ?_
  refine tree_step [(2, true), (7, false)] (by kernel_rfl) (by simp) (by kernel_rfl) ?_
  intro r hr
  simp only [List.mem_cons, List.not_mem_nil, or_false] at hr
  rcases hr with rfl | rfl
  · refine tree_op rfl rfl fun K hK => ?_
    have HK := Lib.hid hK
    clear hK
    simp only [Option.getD_some, List.getElem?_toArray, List.getElem?_cons_zero, List.getElem?_cons_succ]
    go_wp2_with fail
    refine (clone_w ⟨w.heap.size, 4, none⟩ 8 i.dir _ (Hsub.out _ (Keeps.refl _ _)) (by simp [Ino.dir])).mono ?_
    rintro e w2 ⟨v2, rfl, hown2, hab2, hk2⟩
    have hka := (Keeps.refl nowhere w2).alloc (.cells #[.int .u32 (i.a : Int), .int .u32 (i.b : Int)] 36)
    have hown3 := hown2.keep hka (fun _ _ h => h)
    have hrd : Rd (w2.alloc (.cells #[.int .u32 (i.a : Int), .int .u32 (i.b : Int)] 36)) (.slice (some ⟨w2.heap.size, 0, none⟩) 2 2) (some w2.heap.size) ([i.a, i.b].map wv) :=
      Rd.full (heap_alloc_new w2 (.cells #[.int .u32 (i.a : Int), .int .u32 (i.b : Int)] 36)) (by simp [maxLen])
    have hkw := (Hk0.out.drew.more hk2).more hka
    have hw0 := Hk0.out.size
    have hab3 : Above w.heap.size v2.ownBlock := fun b hb => Nat.le_trans hw0 (hab2 b hb)
    have Hown2 := Lib.hid hown2
    have Hab2 := Lib.hid hab2
    have Hk2 := Lib.hid hk2
    have Hka := Lib.hid hka
    have Hown3 := Lib.hid hown3
    have Hrd := Lib.hid hrd
    have Hkw := Lib.hid hkw
    have Hab3 := Lib.hid hab3
    clear hown2 hab2 hk2 hka hown3 hrd hkw hab3
    go_wp2_with fail
    refine HK.out _ _ (fun _ => Hk2.out) ?_
    clear HK K
    refine tree_step [(7, false)] (by kernel_rfl) (by simp) (by kernel_rfl) ?_
    intro r hr
    obtain rfl := List.mem_singleton.1 hr
    refine tree_op rfl rfl fun K hK => ?_
    have HK := Lib.hid hK
    clear hK
    simp only [Option.getD_some, List.getElem?_toArray, List.getElem?_cons_zero, List.getElem?_cons_succ]
    go_wp2_with fail
    refine HK.out _ _ (fun h => by cases h) ?_
    clear HK K
    refine tree_step [(8, false)] (by kernel_rfl) (by simp) (by kernel_rfl) ?_
    intro r hr
    obtain rfl := List.mem_singleton.1 hr
    refine tree_op rfl rfl fun K hK => ?_
    have HK := Lib.hid hK
    clear hK
    simp only [Option.getD_some, List.getElem?_toArray, List.getElem?_cons_zero, List.getElem?_cons_succ]
    go_wp2_with (at_builtin; go_must (refine wpList_append_w rfl (.tmp 5) (.tmp 10) rfl _ i.dir rfl Hown3.out _ _ [i.a, i.b] rfl Hrd.out (by simp [Ino.dir]) ?_))
    intro v' w' hown' hk' hf'
    have hab' : Above w.heap.size v'.ownBlock := Hab3.out.of_from hf' (by have := Hkw.out.size; simp at *; omega)
    have hkw' : Keeps nowhere w w' := Hkw.out.trans hk' fun b hb e => by have := Hab3.out b e; omega
    replace hown' : OwnW w' v' i.blocks := hown'
    have Hown' := Lib.hid hown'
    have Hab' := Lib.hid hab'
    have Hkw' := Lib.hid hkw'
    clear hown' hab' hkw'
    clear hk' hf'
    go_wp2_with fail
    refine HK.out _ _ (fun h => by cases h) ?_
    clear HK K
    refine tree_step [(9, false)] (by kernel_rfl) (by simp) (by kernel_rfl) ?_
    intro r hr
    obtain rfl := List.mem_singleton.1 hr
    refine tree_op rfl rfl fun K hK => ?_
    have HK := Lib.hid hK
    clear hK
    simp only [Option.getD_some, List.getElem?_toArray, List.getElem?_cons_zero, List.getElem?_cons_succ]
    go_wp2_with fail
    refine HK.out _ _ (fun h => by cases h) ?_
    clear HK K
    refine tree_fin (by kernel_rfl) ?_
    go_wp2_with fail
    go_ret
    exact ⟨v', rfl, Hown'.out, Hab'.out, Hkw'.out⟩
  · refine tree_op rfl rfl fun K hK => ?_
    have HK := Lib.hid hK
    clear hK
    simp only [Option.getD_some, List.getElem?_toArray, List.getElem?_cons_zero, List.getElem?_cons_succ]
    have hka := (Keeps.refl nowhere w1.drew).alloc (.cells #[.int .u32 (i.a : Int), .int .u32 (i.b : Int)] 36)
    have hrd : Rd (w1.drew.alloc (.cells #[.int .u32 (i.a : Int), .int .u32 (i.b : Int)] 36)) (.slice (some ⟨w1.heap.size, 0, none⟩) 2 2) (some w1.heap.size) ([i.a, i.b].map wv) :=
      Rd.full (heap_alloc_new w1.drew (.cells #[.int .u32 (i.a : Int), .int .u32 (i.b : Int)] 36)) (by simp [maxLen])
    have hsub2 := Hsub.out _ hka
    have hkwa := Hk0.out.drew.more hka
    have Hka := Lib.hid hka
    have Hrd := Lib.hid hrd
    have Hsub2 := Lib.hid hsub2
    have Hkwa := Lib.hid hkwa
    clear hka hrd hsub2 hkwa
    go_wp2_with fail
    refine HK.out _ _ (fun h => by cases h) ?_
    clear HK K
    refine tree_step [(2, false)] (by kernel_rfl) (by simp) (by kernel_rfl) ?_
    intro r hr
    obtain rfl := List.mem_singleton.1 hr
    refine tree_op rfl rfl fun K hK => ?_
    have HK := Lib.hid hK
    clear hK
    simp only [Option.getD_some, List.getElem?_toArray, List.getElem?_cons_zero, List.getElem?_cons_succ]
    go_wp2_with fail
    refine (clone_w ⟨w.heap.size, 4, none⟩ 8 i.dir _ Hsub2.out (by simp [Ino.dir])).mono ?_
    rintro e w2 ⟨v2, rfl, hown2, hab2, hk2⟩
    have hw0 := Hkwa.out.size
    have hab3 : Above w.heap.size v2.ownBlock := fun b hb => Nat.le_trans hw0 (hab2 b hb)
    have hkw := Hkwa.out.more hk2
    have hrd2 := Hrd.out.keep hk2 (fun _ _ h => h)
    have Hown2 := Lib.hid hown2
    have Hab2 := Lib.hid hab2
    have Hk2 := Lib.hid hk2
    have Hkw := Lib.hid hkw
    have Hab3 := Lib.hid hab3
    have Hrd2 := Lib.hid hrd2
    clear hown2 hab2 hk2 hkw hab3 hrd2
    go_wp2_with fail
    refine HK.out _ _ (fun h => by cases h) ?_
    clear HK K
    refine tree_step [(8, false)] (by kernel_rfl) (by simp) (by kernel_rfl) ?_
    intro r hr
    obtain rfl := List.mem_singleton.1 hr
    refine tree_op rfl rfl fun K hK => ?_
    have HK := Lib.hid hK
    clear hK
    simp only [Option.getD_some, List.getElem?_toArray, List.getElem?_cons_zero, List.getElem?_cons_succ]
    go_wp2_with (at_builtin; go_must (refine wpList_append_w rfl (.tmp 5) (.tmp 10) rfl _ i.dir rfl Hown2.out _ _ [i.a, i.b] rfl Hrd2.out (by simp [Ino.dir]) ?_))
    intro v' w' hown' hk' hf'
    have hab' : Above w.heap.size v'.ownBlock := Hab3.out.of_from hf' Hkw.out.size
    have hkw' : Keeps nowhere w w' := Hkw.out.trans hk' fun b hb e => by have := Hab3.out b e; omega
    replace hown' : OwnW w' v' i.blocks := hown'
    have Hown' := Lib.hid hown'
    have Hab' := Lib.hid hab'
    have Hkw' := Lib.hid hkw'
    clear hown' hab' hkw'
    clear hk' hf'
    go_wp2_with fail
    refine HK.out _ _ (fun h => by cases h) ?_
    clear HK K
    refine tree_step [(9, false)] (by kernel_rfl) (by simp) (by kernel_rfl) ?_
    intro r hr
    obtain rfl := List.mem_singleton.1 hr
    refine tree_op rfl rfl fun K hK => ?_
    have HK := Lib.hid hK
    clear hK
    simp only [Option.getD_some, List.getElem?_toArray, List.getElem?_cons_zero, List.getElem?_cons_succ]
    go_wp2_with fail
    refine HK.out _ _ (fun h => by cases h) ?_
    clear HK K
    refine tree_fin (by kernel_rfl) ?_
    go_wp2_with fail
    go_ret
    exact ⟨v', rfl, Hown'.out, Hab'.out, Hkw'.out⟩
end Go.Proofs.Ytblmbchjafffbaa
