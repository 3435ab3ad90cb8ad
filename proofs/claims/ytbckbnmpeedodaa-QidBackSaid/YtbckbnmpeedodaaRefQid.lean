/-
  The references QidBytes, QidType and law 3's Of.
-/
import Derived.Test.YtbckbnmpeedodaaRefNum
import Derived.Test.YtbckbnmpeedodaaRegion
namespace Go.Proofs.Ytbckbnmpeedodaa
open Go.RowKit

set_option maxHeartbeats 400000 in
theorem ref_qidtype (m : Nat) (hm : m < 4294967296) (w : World) : Calls Try.prog 21 #[.int .u32 m] w fun e w' => e = .returned (.int .u8 (typ m : Nat)) ∧ w = w' := by
  have ha := and_224 (m / 16777216) (by omega)
  rw [Int.natCast_ediv] at ha
  have Ha := Lib.hid ha
  clear ha
  go_enter Try.func21, Try.ntmps21
  go_wp2
  go_ret
  exact ⟨congrArg (fun x => Ending.returned (Value.int .u8 x)) Ha.out, rfl⟩

set_option maxHeartbeats 400000 in
theorem law3_of (t v p : Int) (w : World) : Calls Try.prog 18 #[.agg #[.int .u8 t, .int .u32 v, .int .u64 p]] w fun e w' => e = .returned (.agg #[.int .u8 t, .int .u32 v, .int .u64 p]) ∧ Keeps nowhere w w' := by
  go_enter Try.func18, Try.ntmps18
  go_wp2
  refine bodyPost_ret (v := .agg #[.int .u8 t, .int .u32 v, .int .u64 p]) (by simp [results, Try.results18, go_sem]) rfl ?_
  exact ⟨rfl, ((Keeps.refl _ w).alloc _).alloc _⟩

set_option maxHeartbeats 400000 in
theorem ref_qidbytes (q : Q) (hq : q.ok) (w : World) :
    Calls Try.prog 17 #[.agg #[.int .u8 q.t, .int .u32 q.v, .int .u64 q.p]] w (RetOwnB w q.bytes) := by
  obtain ⟨qt, qv, qp⟩ := q
  obtain ⟨h1, h2, h3⟩ := hq
  dsimp only at h1 h2 h3 ⊢
  have hbox := Blk.new w 36 #[.int .u8 (qt : Int), .int .u32 (qv : Int), .int .u64 (qp : Int)]
  have hk0 : Keeps nowhere w (w.alloc (.cells #[.int .u8 (qt : Int), .int .u32 (qv : Int), .int .u64 (qp : Int)] 36)) := (Keeps.refl _ w).alloc _
  obtain ⟨w0, hw0⟩ : ∃ w0, w0 = w.alloc (.cells #[.int .u8 (qt : Int), .int .u32 (qv : Int), .int .u64 (qp : Int)] 36) := ⟨_, rfl⟩
  rw [← hw0] at hbox hk0
  go_enter Try.func17, Try.ntmps17
  go_wp2_with fail
  rw [← hw0]
  have c0 := hbox.cell 0
  have c1 := hbox.cell 1
  have c2 := hbox.cell 2
  simp at c0 c1 c2
  clear hw0
  have Hbox := Lib.hid hbox
  have Hk0 := Lib.hid hk0
  clear hbox hk0
  have cell0 : ∀ w', Keeps nowhere w0.drew w' → w'.cell? ⟨w.heap.size, 0, none⟩ = some (.int .u8 (qt : Int)) := fun w' hs => by simpa using (Hbox.out.drew.keep hs (fun h => h)).cell 0
  have cell1 : ∀ w', Keeps nowhere w0.drew w' → w'.cell? ⟨w.heap.size, 1, none⟩ = some (.int .u32 (qv : Int)) := fun w' hs => by simpa using (Hbox.out.drew.keep hs (fun h => h)).cell 1
  have e1 : IntKind.u64.wrap (qt : Int) = qt := by rw [IntKind.wrap_u64]; omega
  have e2 : IntKind.u64.wrap (qv : Int) = qv := by rw [IntKind.wrap_u64]; omega
  refine wp_region_script [0, 1, 2, 4, 5, 6] [1, 5] [.ps [0], .fs [1], .ps [2, 4], .fs [5], .ps [6], .es [3] true, .es [7, 8, 9] false] (Keeps nowhere w0.drew) rfl (by kernel_rfl) ?_
  refine wpS_ps rfl fun K hK => ?_
  simp only [List.map_cons, List.map_nil, Option.getD_some, List.getElem?_toArray, List.getElem?_cons_zero, List.getElem?_cons_succ]
  iterate 1 (first | (apply quietO_cons _ rfl; (intro w' _; go_simp; rfl)) | apply quietO_skip rfl)
  refine hK _ ?_
  clear hK K
  simp only [Act.put, List.setIfInBounds_toArray, List.set_cons_zero, List.set_cons_succ]
  refine wpS_fs rfl (Keeps.refl _ _) fun K hK => ?_
  simp only [List.map_cons, List.map_nil, Option.getD_some, List.getElem?_toArray, List.getElem?_cons_zero, List.getElem?_cons_succ]
  iterate 1 (first | (apply quietO_cons _ rfl; (intro w' hs; have c_0 := cell0 w' hs; go_simp; rfl)) | apply quietO_skip rfl)
  refine hK _ ?_
  clear hK K
  simp only [Act.put, List.setIfInBounds_toArray, List.set_cons_zero, List.set_cons_succ]
  refine wpS_ps rfl fun K hK => ?_
  simp only [List.map_cons, List.map_nil, Option.getD_some, List.getElem?_toArray, List.getElem?_cons_zero, List.getElem?_cons_succ]
  iterate 2 (first | (apply quietO_cons _ rfl; (intro w' _; go_simp; rfl)) | apply quietO_skip rfl)
  refine hK _ ?_
  clear hK K
  simp only [Act.put, List.setIfInBounds_toArray, List.set_cons_zero, List.set_cons_succ]
  refine wpS_fs rfl (Keeps.refl _ _) fun K hK => ?_
  simp only [List.map_cons, List.map_nil, Option.getD_some, List.getElem?_toArray, List.getElem?_cons_zero, List.getElem?_cons_succ]
  iterate 1 (first | (apply quietO_cons _ rfl; (intro w' hs; have c_0 := cell1 w' hs; go_simp; rfl)) | apply quietO_skip rfl)
  refine hK _ ?_
  clear hK K
  simp only [Act.put, List.setIfInBounds_toArray, List.set_cons_zero, List.set_cons_succ]
  refine wpS_ps rfl fun K hK => ?_
  simp only [List.map_cons, List.map_nil, Option.getD_some, List.getElem?_toArray, List.getElem?_cons_zero, List.getElem?_cons_succ]
  iterate 1 (first | (apply quietO_cons _ rfl; (intro w' _; go_simp; rfl)) | apply quietO_skip rfl)
  refine hK _ ?_
  clear hK K
  simp only [Act.put, List.setIfInBounds_toArray, List.set_cons_zero, List.set_cons_succ]
  refine wpS_es rfl fun K hK => ?_
  have HK := Lib.hid hK
  clear hK
  simp only [List.map_cons, List.map_nil, Option.getD_some, List.getElem?_toArray, List.getElem?_cons_zero, List.getElem?_cons_succ]
  go_wp2_with fail
  refine (ref_num _ _ _ (by omega) (by omega)).mono ?_
  rintro e w1 ⟨v1, rfl, ho1, ha1, hk1⟩
  have Ho1 := Lib.hid ho1
  have Ha1 := Lib.hid ha1
  have Hk1 := Lib.hid hk1
  clear ho1 ha1 hk1
  go_wp2_with fail
  refine HK.out _ _ (fun _ => Hk1.out) ?_
  clear HK K
  refine wpS_es rfl fun K hK => ?_
  have HK := Lib.hid hK
  clear hK
  simp only [List.map_cons, List.map_nil, Option.getD_some, List.getElem?_toArray, List.getElem?_cons_zero, List.getElem?_cons_succ]
  go_wp2_with fail
  refine (ref_num _ _ _ (by omega) (by omega)).mono ?_
  rintro e w2 ⟨v2, rfl, ho2, ha2, hk2⟩
  have ho1' := Ho1.out.keep hk2 (fun _ _ h => h)
  have hk2' := Hk1.out.more hk2
  have hf1 : Under w1.heap.size v1.ownBlock := Ho1.out.lt
  have hs2 := hk2.size
  have Ho2 := Lib.hid ho2
  have Ha2 := Lib.hid ha2
  have Hk2' := Lib.hid hk2'
  have Ho1' := Lib.hid ho1'
  have Hf1 := Lib.hid hf1
  clear ho2 ha2 hk2' ho1' hf1
  clear hk2
  go_wp2_with (at_builtin; go_must (refine wpList_append_bytes rfl (.tmp 7) (.tmp 11) rfl v1 _ rfl Ho1'.out v2 _ _ rfl Ho2.out.rd (by have := pb_len 1 (qt : Int); have := pb_len 4 (qv : Int); omega) ?_))
  intro v3 w3 ho3 hk3 hf3
  have hk3' : Keeps nowhere w0.drew w3 := Hk2'.out.trans hk3 (fun b hb h => absurd (Ha1.out b h) (by omega))
  have ha3 : Above w0.drew.heap.size v3.ownBlock := Ha1.out.of_from hf3 (Nat.le_trans Hk1.out.size hs2)
  have hb3 := (Hbox.out.drew.keep hk3' (fun h => h)).cell 2
  simp at hb3
  have Ho3 := Lib.hid ho3
  have Hk3' := Lib.hid hk3'
  have Ha3 := Lib.hid ha3
  clear ho3 hk3' ha3
  clear hk3 hf3 c0 c1 c2
  go_wp2_with fail
  refine HK.out _ _ (fun h => by cases h) ?_
  clear HK K
  refine wpS_nil ?_
  go_wp2_with fail
  refine (ref_num _ _ _ (by omega) (by omega)).mono ?_
  rintro e w4 ⟨v4, rfl, ho4, ha4, hk4⟩
  have ho3' := Ho3.out.keep hk4 (fun _ _ h => h)
  have hk4' := Hk3'.out.more hk4
  have hs4 := hk4.size
  have Ho4 := Lib.hid ho4
  have Ha4 := Lib.hid ha4
  have Hk4' := Lib.hid hk4'
  have Ho3' := Lib.hid ho3'
  clear ho4 ha4 hk4' ho3'
  clear hk4
  go_wp2_with (at_builtin; go_must (refine wpList_append_bytes rfl (.tmp 13) (.tmp 16) rfl v3 _ rfl Ho3'.out v4 _ _ rfl Ho4.out.rd (by have := pb_len 1 (qt : Int); have := pb_len 4 (qv : Int); have := pb_len 8 (qp : Int); simp; omega) ?_))
  intro v5 w5 ho5 hk5 hf5
  have hk5' : Keeps nowhere w0.drew w5 := Hk4'.out.trans hk5 (fun b hb h => absurd (Ha3.out b h) (by omega))
  have ha5 : Above w0.drew.heap.size v5.ownBlock := Ha3.out.of_from hf5 (Nat.le_trans Hk3'.out.size hs4)
  have Ho5 := Lib.hid ho5
  have Hk5' := Lib.hid hk5'
  have Ha5 := Lib.hid ha5
  clear ho5 hk5' ha5
  clear hk5 hf5
  go_wp2_with fail
  go_ret
  have e4 : pb 1 (qt : Int) = nb 1 qt := pb_in 1 qt (by omega) (by omega)
  have e5 : pb 4 (qv : Int) = nb 4 qv := pb_in 4 qv (by omega) (by omega)
  have e6 : pb 8 (qp : Int) = nb 8 qp := pb_in 8 qp (by omega) (by omega)
  have ho := Ho5.out
  rw [e4, e5, e6] at ho
  exact ⟨v5, rfl, ho, Ha5.out.mono Hk0.out.size, Hk0.out.drew.more Hk5'.out⟩
end Go.Proofs.Ytbckbnmpeedodaa
