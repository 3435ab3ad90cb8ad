/-
  loggialaw3.QidBack: the walk.
-/
import Derived.Test.YtbckbnmpeedodaaKnown3
import Derived.Test.YtbckbnmpeedodaaRefQid
namespace Go.Proofs.Ytbckbnmpeedodaa
open Go.RowKit

set_option maxHeartbeats 2000000 in
theorem back_walk (q : Q) (hq : q.ok) (m : Nat) (hm : m < 4294967296) (w : World) : Calls Try.prog 3 #[.agg #[.int .u8 q.t, .int .u32 q.v, .int .u64 q.p], .int .u32 m] w (Yes w) := by
  have hb0 := Blk.new w 25 #[.int .u8 (q.t : Int), .int .u32 (q.v : Int), .int .u64 (q.p : Int)]
  have hk0 := (Keeps.refl nowhere w).alloc (.cells #[.int .u8 (q.t : Int), .int .u32 (q.v : Int), .int .u64 (q.p : Int)] 25)
  have Hb0 := Lib.hid hb0
  have Hk0 := Lib.hid hk0
  clear hb0 hk0
  go_enter Try.func3, Try.ntmps3
  go_wp2_with fail
  refine (known3 _).mono ?_
  rintro e w1 ⟨rfl, hk1⟩
  have hb1 := (Hb0.out.keep hk1 (fun h => h)).alloc (.cells #[.slice none 0 0] 30)
  have ho1 := OutAt.new w1
  have hk1' := (Hk0.out.more hk1).alloc (.cells #[.slice none 0 0] 30)
  have hs1 : w.heap.size < w1.heap.size := (Hb0.out.keep hk1 (fun h => h)).lt
  have hs1' : (w1.alloc (.cells #[.slice none 0 0] 30)).heap.size = w1.heap.size + 1 := by simp
  obtain ⟨w2, hw2⟩ : ∃ w2, w2 = w1.alloc (.cells #[.slice none 0 0] 30) := ⟨_, rfl⟩
  rw [← hw2] at hb1 ho1 hk1' hs1'
  have c0 := hb1.cell 0
  have c1 := hb1.cell 1
  have c2 := hb1.cell 2
  simp at c0 c1 c2
  rw [hw2] at c0 c1 c2
  clear hk1
  have Hw2 := Lib.hid hw2
  clear hw2
  have Hb1 := Lib.hid hb1
  have Ho1 := Lib.hid ho1
  have Hk1' := Lib.hid hk1'
  clear hb1 ho1 hk1'
  go_wp2_with fail
  rw [← Hw2.out]
  clear c0 c1 c2 Hw2
  refine (qid_put _ _ _ q hq _ Ho1.out (by simp)).mono ?_
  rintro e w3 ⟨rfl, g3, ho3, hg3, hk3⟩
  have hb3 := Hb1.out.keep hk3 (fun h => h.elim (fun e => by omega) (fun e => by cases e))
  have hk3' := Hk1'.out.fresh2 hk3 (by omega) (Above.none _)
  rw [List.nil_append] at ho3
  clear hg3 hk3
  have Hb3 := Lib.hid hb3
  have Ho3 := Lib.hid ho3
  have Hk3' := Lib.hid hk3'
  clear hb3 ho3 hk3'
  go_wp2_with fail
  refine (out_bytes _ _ _ _ Ho3.out (by rw [q.bytes_len]; omega)).mono ?_
  rintro e w4 ⟨vb, gb, rfl, hr4, hg4, hk4⟩
  have hb4 := Hb3.out.keep hk4 (fun h => h)
  have hk4' := Hk3'.out.more hk4
  clear hg4 hk4
  have Hb4 := Lib.hid hb4
  have Hr4 := Lib.hid hr4
  have Hk4' := Lib.hid hk4'
  clear hb4 hr4 hk4'
  go_wp2_with fail
  refine (qid_type m hm _).mono ?_
  rintro e w5 ⟨rfl, rfl⟩
  have htm : typ m < 256 := by unfold typ; omega
  go_wp2_with fail
  refine (qid_mode (typ m) htm _).mono ?_
  rintro e w5 ⟨rfl, rfl⟩
  go_wp2_with fail
  have conv : ∀ w', Keeps nowhere w4.drew w' → (convert 28 9 vb).run Try.prog w' = .ok (.string (strOf q.bytes)) w' := fun w' hs => conv_str _ _ _ _ (Rd.keep (w := w4.drew) Hr4.out hs (fun _ _ h => h))
  have cell0 : ∀ w', Keeps nowhere w4.drew w' → w'.cell? ⟨w.heap.size, 0, none⟩ = some (.int .u8 (q.t : Int)) := fun w' hs => by simpa using (Hb4.out.drew.keep hs (fun h => h)).cell 0
  have cell1 : ∀ w', Keeps nowhere w4.drew w' → w'.cell? ⟨w.heap.size, 1, none⟩ = some (.int .u32 (q.v : Int)) := fun w' hs => by simpa using (Hb4.out.drew.keep hs (fun h => h)).cell 1
  have cell2 : ∀ w', Keeps nowhere w4.drew w' → w'.cell? ⟨w.heap.size, 2, none⟩ = some (.int .u64 (q.p : Int)) := fun w' hs => by simpa using (Hb4.out.drew.keep hs (fun h => h)).cell 2
  have Conv := Lib.hid conv
  have Cell0 := Lib.hid cell0
  have Cell1 := Lib.hid cell1
  have Cell2 := Lib.hid cell2
  clear conv cell0 cell1 cell2
  refine wp_region_script [0, 1, 6, 7, 8, 11, 12, 13, 14, 15, 16, 21, 27, 28, 30, 31, 32, 33, 34, 35, 36, 37] [1, 11, 28, 31] [.ps [0], .fs [1], .es [2] true, .es [3] true, .es [4] true, .es [5] true, .ps [6, 7, 8], .fs [11], .es [9] true, .es [10] true, .ps [12, 13, 14, 15, 16], .es [17, 18, 19, 20] false, .ps [21], .es [22, 23, 24, 25, 26] false, .ps [27], .fs [28], .ps [30], .fs [31], .ps [32, 33, 34], .es [29] true, .ps [35, 36, 37]] (Keeps nowhere w4.drew) rfl (by kernel_rfl) ?_
  refine wpS_ps rfl fun K hK => ?_
  simp only [List.map_cons, List.map_nil, Option.getD_some, List.getElem?_toArray, List.getElem?_cons_zero, List.getElem?_cons_succ]
  iterate 1 (first | (apply quietO_cons _ rfl; (intro w' _; go_simp; rfl)) | apply quietO_skip rfl)
  refine hK _ ?_
  clear hK K
  simp only [Act.put, List.setIfInBounds_toArray, List.set_cons_zero, List.set_cons_succ]
  refine wpS_fs rfl (Keeps.refl _ _) fun K hK => ?_
  simp only [List.map_cons, List.map_nil, Option.getD_some, List.getElem?_toArray, List.getElem?_cons_zero, List.getElem?_cons_succ]
  iterate 1 (first | (apply quietO_cons _ rfl; (intro w' hs; have c_0 := Conv.out w' hs; go_simp; rfl)) | apply quietO_skip rfl)
  refine hK _ ?_
  clear hK K
  simp only [Act.put, List.setIfInBounds_toArray, List.set_cons_zero, List.set_cons_succ]
  refine wpS_es rfl fun K hK => ?_
  have HK := Lib.hid hK
  clear hK
  simp only [List.map_cons, List.map_nil, Option.getD_some, List.getElem?_toArray, List.getElem?_cons_zero, List.getElem?_cons_succ]
  have c0 := Cell0.out _ (Keeps.refl _ _)
  have c1 := Cell1.out _ (Keeps.refl _ _)
  have c2 := Cell2.out _ (Keeps.refl _ _)
  go_wp2_with fail
  refine HK.out _ _ (fun _ => Keeps.refl _ _) ?_
  clear HK K
  clear c0 c1 c2
  refine wpS_es rfl fun K hK => ?_
  have HK := Lib.hid hK
  clear hK
  simp only [List.map_cons, List.map_nil, Option.getD_some, List.getElem?_toArray, List.getElem?_cons_zero, List.getElem?_cons_succ]
  go_wp2_with fail
  refine (law3_of _ _ _ _).mono ?_
  rintro e w6 ⟨rfl, hk6⟩
  have Hk6 := Lib.hid hk6
  clear hk6
  go_wp2_with fail
  refine HK.out _ _ (fun _ => Hk6.out) ?_
  clear HK K
  refine wpS_es rfl fun K hK => ?_
  have HK := Lib.hid hK
  clear hK
  simp only [List.map_cons, List.map_nil, Option.getD_some, List.getElem?_toArray, List.getElem?_cons_zero, List.getElem?_cons_succ]
  go_wp2_with fail
  refine (ref_qidbytes q hq _).mono ?_
  rintro e w7 ⟨v7, rfl, ho7, ha7, hk7⟩
  have hk7' := Hk6.out.more hk7
  have hc7 := conv_str _ _ _ _ ho7.rd
  clear ha7 hk7 ho7
  have Hk7' := Lib.hid hk7'
  have Hc7 := Lib.hid hc7
  clear hk7' hc7
  go_wp2_with fail
  refine HK.out _ _ (fun _ => Hk7'.out) ?_
  clear HK K
  refine wpS_es rfl fun K hK => ?_
  have HK := Lib.hid hK
  clear hK
  simp only [List.map_cons, List.map_nil, Option.getD_some, List.getElem?_toArray, List.getElem?_cons_zero, List.getElem?_cons_succ]
  have hc7 := Hc7.out
  go_wp2_with fail
  refine HK.out _ _ (fun _ => Hk7'.out) ?_
  clear HK K
  clear hc7
  refine wpS_ps rfl fun K hK => ?_
  simp only [List.map_cons, List.map_nil, Option.getD_some, List.getElem?_toArray, List.getElem?_cons_zero, List.getElem?_cons_succ]
  iterate 3 (first | (apply quietO_cons _ rfl; (intro w' _; go_simp; rfl)) | apply quietO_skip rfl)
  refine hK _ ?_
  clear hK K
  simp only [Act.put, List.setIfInBounds_toArray, List.set_cons_zero, List.set_cons_succ]
  refine wpS_fs rfl (Hk7'.out) fun K hK => ?_
  simp only [List.map_cons, List.map_nil, Option.getD_some, List.getElem?_toArray, List.getElem?_cons_zero, List.getElem?_cons_succ]
  iterate 1 (first | (apply quietO_cons _ rfl; (intro w' hs; have c_0 := Cell0.out w' hs; have c_1 := Cell1.out w' hs; have c_2 := Cell2.out w' hs; go_simp; rfl)) | apply quietO_skip rfl)
  refine hK _ ?_
  clear hK K
  simp only [Act.put, List.setIfInBounds_toArray, List.set_cons_zero, List.set_cons_succ]
  refine wpS_es rfl fun K hK => ?_
  have HK := Lib.hid hK
  clear hK
  simp only [List.map_cons, List.map_nil, Option.getD_some, List.getElem?_toArray, List.getElem?_cons_zero, List.getElem?_cons_succ]
  go_wp2_with fail
  refine (in_of _ _ q.bytes _ (Rd.keep (w := w4.drew) Hr4.out Hk7'.out (fun _ _ h => h)) (by rw [q.bytes_len]; omega)).mono ?_
  rintro e w8 ⟨p8, g8, rfl, hi8, hp8, hg8, hk8⟩
  have hk8' := Hk7'.out.more hk8
  have hpw : Hid (w4.drew.heap.size ≤ p8) := Nat.le_trans Hk7'.out.size hp8
  clear hg8 hk8 hp8
  have Hi8 := Lib.hid hi8
  have Hk8' := Lib.hid hk8'
  clear hi8 hk8'
  go_wp2_with fail
  refine HK.out _ _ (fun _ => Hk8'.out) ?_
  clear HK K
  refine wpS_es rfl fun K hK => ?_
  have HK := Lib.hid hK
  clear hK
  simp only [List.map_cons, List.map_nil, Option.getD_some, List.getElem?_toArray, List.getElem?_cons_zero, List.getElem?_cons_succ]
  go_wp2_with fail
  refine (qid_take _ _ _ _ _ Hi8.out).mono ?_
  rintro e w9 ⟨he9, hi9, hk9⟩
  rw [← List.append_nil (Q.bytes _), qTake_b _ _ hq] at he9
  subst he9
  have hk9' := Hk8'.out.fresh hk9 hpw.out
  clear hi9 hk9
  simp only [Q.val]
  have Hk9' := Lib.hid hk9'
  clear hk9'
  go_wp2_with fail
  refine HK.out _ _ (fun _ => Hk9'.out) ?_
  clear HK K
  refine wpS_ps rfl fun K hK => ?_
  simp only [List.map_cons, List.map_nil, Option.getD_some, List.getElem?_toArray, List.getElem?_cons_zero, List.getElem?_cons_succ]
  iterate 5 (first | (apply quietO_cons _ rfl; (intro w' _; go_simp; rfl)) | apply quietO_skip rfl)
  refine hK _ ?_
  clear hK K
  simp only [Act.put, List.setIfInBounds_toArray, List.set_cons_zero, List.set_cons_succ]
  refine wpS_es rfl fun K hK => ?_
  have HK := Lib.hid hK
  clear hK
  simp only [List.map_cons, List.map_nil, Option.getD_some, List.getElem?_toArray, List.getElem?_cons_zero, List.getElem?_cons_succ]
  go_wp2_with fail
  refine (ref_qidtype m hm _).mono ?_
  rintro e w10 ⟨rfl, rfl⟩
  go_wp2_with fail
  refine HK.out _ _ (fun h => by cases h) ?_
  clear HK K
  refine wpS_ps rfl fun K hK => ?_
  simp only [List.map_cons, List.map_nil, Option.getD_some, List.getElem?_toArray, List.getElem?_cons_zero, List.getElem?_cons_succ]
  iterate 1 (first | (apply quietO_cons _ rfl; (intro w' _; go_simp; rfl)) | apply quietO_skip rfl)
  refine hK _ ?_
  clear hK K
  simp only [Act.put, List.setIfInBounds_toArray, List.set_cons_zero, List.set_cons_succ]
  have hand := and_hi3 m hm
  rw [← mod_typ] at hand
  refine wpS_es rfl fun K hK => ?_
  have HK := Lib.hid hK
  clear hK
  simp only [List.map_cons, List.map_nil, Option.getD_some, List.getElem?_toArray, List.getElem?_cons_zero, List.getElem?_cons_succ]
  go_wp2_with fail
  refine HK.out _ _ (fun h => by cases h) ?_
  clear HK K
  clear hand
  refine wpS_ps rfl fun K hK => ?_
  simp only [List.map_cons, List.map_nil, Option.getD_some, List.getElem?_toArray, List.getElem?_cons_zero, List.getElem?_cons_succ]
  iterate 1 (first | (apply quietO_cons _ rfl; (intro w' _; go_simp; rfl)) | apply quietO_skip rfl)
  refine hK _ ?_
  clear hK K
  simp only [Act.put, List.setIfInBounds_toArray, List.set_cons_zero, List.set_cons_succ]
  refine wpS_fs rfl (Hk9'.out) fun K hK => ?_
  simp only [List.map_cons, List.map_nil, Option.getD_some, List.getElem?_toArray, List.getElem?_cons_zero, List.getElem?_cons_succ]
  iterate 1 (first | (apply quietO_cons _ rfl; (intro w' hs; have c_0 := Cell0.out w' hs; go_simp; rfl)) | apply quietO_skip rfl)
  refine hK _ ?_
  clear hK K
  simp only [Act.put, List.setIfInBounds_toArray, List.set_cons_zero, List.set_cons_succ]
  refine wpS_ps rfl fun K hK => ?_
  simp only [List.map_cons, List.map_nil, Option.getD_some, List.getElem?_toArray, List.getElem?_cons_zero, List.getElem?_cons_succ]
  iterate 1 (first | (apply quietO_cons _ rfl; (intro w' _; go_simp; rfl)) | apply quietO_skip rfl)
  refine hK _ ?_
  clear hK K
  simp only [Act.put, List.setIfInBounds_toArray, List.set_cons_zero, List.set_cons_succ]
  refine wpS_fs rfl (Hk9'.out) fun K hK => ?_
  simp only [List.map_cons, List.map_nil, Option.getD_some, List.getElem?_toArray, List.getElem?_cons_zero, List.getElem?_cons_succ]
  iterate 1 (first | (apply quietO_cons _ rfl; (intro w' hs; have c_0 := Cell0.out w' hs; go_simp; rfl)) | apply quietO_skip rfl)
  refine hK _ ?_
  clear hK K
  simp only [Act.put, List.setIfInBounds_toArray, List.set_cons_zero, List.set_cons_succ]
  have ha := and_224 q.t hq.1
  have hq1 := hq.1
  obtain ⟨x, hx, hxl, hxm⟩ : ∃ x, x = q.t / 32 * 32 ∧ x ≤ 255 ∧ mod' q.t = x * 16777216 := ⟨_, rfl, by omega, rfl⟩
  rw [← hx] at ha
  clear hx hq1
  have hw1 : IntKind.u32.wrap (x : Int) = x := by simp [IntKind.wrap, IntKind.bits, IntKind.signed]; omega
  have hw2 : IntKind.u32.wrap ((x : Int) * 16777216) = x * 16777216 := by simp [IntKind.wrap, IntKind.bits, IntKind.signed]; omega
  refine wpS_ps rfl fun K hK => ?_
  simp only [List.map_cons, List.map_nil, Option.getD_some, List.getElem?_toArray, List.getElem?_cons_zero, List.getElem?_cons_succ]
  iterate 3 (first | (apply quietO_cons _ rfl; (intro w' _; go_simp; rfl)) | apply quietO_skip rfl)
  refine hK _ ?_
  clear hK K
  simp only [Act.put, List.setIfInBounds_toArray, List.set_cons_zero, List.set_cons_succ]
  clear ha
  refine wpS_es rfl fun K hK => ?_
  have HK := Lib.hid hK
  clear hK
  simp only [List.map_cons, List.map_nil, Option.getD_some, List.getElem?_toArray, List.getElem?_cons_zero, List.getElem?_cons_succ]
  go_wp2_with fail
  refine (qid_mode q.t hq.1 _).mono ?_
  rintro e w11 ⟨rfl, rfl⟩
  go_wp2_with fail
  refine HK.out _ _ (fun _ => Hk9'.out) ?_
  clear HK K
  refine wpS_ps rfl fun K hK => ?_
  simp only [List.map_cons, List.map_nil, Option.getD_some, List.getElem?_toArray, List.getElem?_cons_zero, List.getElem?_cons_succ]
  iterate 3 (first | (apply quietO_cons _ rfl; (intro w' _; go_simp; rfl)) | apply quietO_skip rfl)
  refine hK _ ?_
  clear hK K
  simp only [Act.put, List.setIfInBounds_toArray, List.set_cons_zero, List.set_cons_succ]
  refine wpS_nil ?_
  go_wp2_with fail
  go_ret
  exact ⟨rfl, Hk4'.out.drew.more Hk9'.out⟩
end Go.Proofs.Ytbckbnmpeedodaa
