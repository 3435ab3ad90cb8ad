/-
  frame: Twin, Wrap; the reference's Wrap.
-/
import Derived.Test.YtblmbchjafffbaaF2
import Derived.Test.YtblmbchjafffbaaRegion
namespace Go.Proofs.Ytblmbchjafffbaa
open Go.RowKit

set_option maxHeartbeats 800000 in
set_option maxRecDepth 8000 in
theorem f_twin (p : Nat) (g : Option Nat) (L : List UInt8) (d : Bool) (w : World) (h : StAt 84 w p g L d) (hl : L.length ≤ 1099511627776) :
    Calls Try.prog 22 #[.pointer (some ⟨p, 0, none⟩)] w fun e w' => ∃ q g', e = .returned (.pointer (some ⟨q, 0, none⟩)) ∧ StAt 84 w' q g' L d ∧ w.heap.size ≤ q ∧ Above w.heap.size g' ∧ Keeps nowhere w w' := by
  obtain ⟨v, hb, hr, hgp⟩ := h
  obtain ⟨A, c, rfl, -⟩ := hr.form
  rw [List.length_map] at *
  have r0 : ∀ w', Keeps nowhere w.drew w' → w'.cell? ⟨p, 0, none⟩ = some (.slice A L.length c) := fun w' hs => by simpa using ((Blk.drew hb).keep hs (fun h => h)).cell 0
  have r1 : ∀ w', Keeps nowhere w.drew w' → w'.cell? ⟨p, 1, none⟩ = some (.bool d) := fun w' hs => by simpa using ((Blk.drew hb).keep hs (fun h => h)).cell 1
  have Hb := Lib.hid hb
  have Hr := Lib.hid hr
  have Hgp := Lib.hid hgp
  clear hb hr hgp
  go_enter Try.func22, Try.ntmps22
  go_wp2_with fail
  refine wp_region_script [0, 1, 2, 3, 5, 6, 7, 8, 9] [3, 8] [.ps [0, 1, 2], .fs [3], .ps [5, 6, 7], .fs [8], .es [4] true, .ps [9], .es [10, 11] false] (Keeps nowhere w.drew) rfl (by kernel_rfl) ?_
  refine wpS_ps rfl fun K hK => ?_
  simp only [List.map_cons, List.map_nil, Option.getD_some, List.getElem?_toArray, List.getElem?_cons_zero, List.getElem?_cons_succ]
  iterate 3 (first | (apply quietO_cons _ rfl; (intro w' _; go_simp; rfl)) | apply quietO_skip rfl)
  refine hK _ ?_
  clear hK K
  simp only [Act.put, List.setIfInBounds_toArray, List.set_cons_zero, List.set_cons_succ]
  refine wpS_fs rfl (Keeps.refl _ _) fun K hK => ?_
  simp only [List.map_cons, List.map_nil, Option.getD_some, List.getElem?_toArray, List.getElem?_cons_zero, List.getElem?_cons_succ]
  iterate 1 (first | (apply quietO_cons _ rfl; (intro w' hs; have c_0 := r0 w' hs; go_simp; rfl)) | apply quietO_skip rfl)
  refine hK _ ?_
  clear hK K
  simp only [Act.put, List.setIfInBounds_toArray, List.set_cons_zero, List.set_cons_succ]
  refine wpS_ps rfl fun K hK => ?_
  simp only [List.map_cons, List.map_nil, Option.getD_some, List.getElem?_toArray, List.getElem?_cons_zero, List.getElem?_cons_succ]
  iterate 3 (first | (apply quietO_cons _ rfl; (intro w' _; go_simp; rfl)) | apply quietO_skip rfl)
  refine hK _ ?_
  clear hK K
  simp only [Act.put, List.setIfInBounds_toArray, List.set_cons_zero, List.set_cons_succ]
  refine wpS_fs rfl (Keeps.refl _ _) fun K hK => ?_
  simp only [List.map_cons, List.map_nil, Option.getD_some, List.getElem?_toArray, List.getElem?_cons_zero, List.getElem?_cons_succ]
  iterate 1 (first | (apply quietO_cons _ rfl; (intro w' hs; have c_0 := r1 w' hs; go_simp; rfl)) | apply quietO_skip rfl)
  refine hK _ ?_
  clear hK K
  simp only [Act.put, List.setIfInBounds_toArray, List.set_cons_zero, List.set_cons_succ]
  clear r0 r1
  refine wpS_es rfl fun K hK => ?_
  have HK := Lib.hid hK
  clear hK
  simp only [List.map_cons, List.map_nil, Option.getD_some, List.getElem?_toArray, List.getElem?_cons_zero, List.getElem?_cons_succ]
  go_wp2_with fail
  refine (clone_any _ _ L _ (Hr.out.keep (w' := w.drew) ((Keeps.refl nowhere w).drew) (fun _ _ h => h)) hl).mono ?_
  rintro e w1 ⟨v1, g1, rfl, hr1, hf1, hk1⟩
  obtain ⟨A1, c1, rfl, -⟩ := hr1.form
  rw [List.length_map] at *
  have Hr1 := Lib.hid hr1
  have Hf1 := Lib.hid hf1
  have Hk1 := Lib.hid hk1
  clear hr1 hf1 hk1
  go_wp2_with fail
  refine HK.out _ _ (fun _ => Hk1.out) ?_
  clear HK K
  refine wpS_ps rfl fun K hK => ?_
  simp only [List.map_cons, List.map_nil, Option.getD_some, List.getElem?_toArray, List.getElem?_cons_zero, List.getElem?_cons_succ]
  iterate 1 (first | (apply quietO_cons _ rfl; (intro w' _; go_simp; rfl)) | apply quietO_skip rfl)
  refine hK _ ?_
  clear hK K
  simp only [Act.put, List.setIfInBounds_toArray, List.set_cons_zero, List.set_cons_succ]
  refine wpS_es rfl fun K hK => ?_
  have HK := Lib.hid hK
  clear hK
  simp only [List.map_cons, List.map_nil, Option.getD_some, List.getElem?_toArray, List.getElem?_cons_zero, List.getElem?_cons_succ]
  go_wp2_with fail
  refine HK.out _ _ (fun h => by cases h) ?_
  clear HK K
  refine wpS_nil ?_
  go_wp2_with fail
  go_ret
  have hs := Hk1.out.size
  refine ⟨w1.heap.size, g1, rfl, ⟨_, Blk.new _ _ _, ?_, fun e => absurd (Hr1.out.lt _ e) (Nat.lt_irrefl _)⟩, hs, Hf1.out, ((Keeps.refl nowhere w).drew.more Hk1.out).alloc _⟩
  exact Hr1.out.keep ((Keeps.refl nowhere w1).alloc _) (fun _ _ h => h)

/-- Wrap's bytes -/
def frm (B : List UInt8) : List UInt8 := nb 4 (B.length + 4) ++ B
def wrapE (B : List UInt8) : Int := if 8188 < B.length then 3 else 0
def wrapB (B : List UInt8) : List UInt8 := if 8188 < B.length then [] else frm B

def RetWrap (w : World) (B : List UInt8) : Ending → World → Prop := fun e w' =>
  ∃ v g, e = .returned (.tuple #[v, .int .i64 (wrapE B)]) ∧ Rd w' v g ((wrapB B).map bv) ∧ Above w.heap.size g ∧ Keeps nowhere w w'

set_option maxHeartbeats 800000 in
set_option maxRecDepth 8000 in
theorem f_wrap (v0 : Value) (g : Option Nat) (B : List UInt8) (w : World) (hr : Rd w v0 g (B.map bv)) :
    Calls Try.prog 15 #[v0] w (RetWrap w B) := by
  obtain ⟨A, c, rfl, hlc, hcm⟩ := hr.form
  rw [List.length_map] at *
  unfold maxLen at hcm
  by_cases hl : 8188 < B.length
  · have hl' : (8188 : Int) < B.length := by omega
    have Hr := Lib.hid hr
    clear hr
    go_enter Try.func15, Try.ntmps15
    go_wp2_with fail
    go_ret2
    exact ⟨_, none, by rw [wrapE, if_pos hl]; rfl, by rw [wrapB, if_pos hl]; exact Rd.nil _, Above.none _, Keeps.refl _ _⟩
  · have hl' : ¬ (8188 : Int) < B.length := by omega
    have hw4 : IntKind.i64.wrap ((B.length : Int) + 4) = ((B.length + 4 : Nat) : Int) := by rw [IntWalk.i64_in _ (by omega)]; omega
    have hwu : IntKind.u64.wrap ((B.length + 4 : Nat) : Int) = ((B.length + 4 : Nat) : Int) := IntWalk.u64_in _ (by omega)
    have Hr := Lib.hid hr
    have Hlc := Lib.hid hlc
    clear hr hlc
    go_enter Try.func15, Try.ntmps15
    go_wp2_with fail
    refine (out_put _ _ [] 4 (B.length + 4) _ (OutAt.new w) (by omega) (by omega) (by omega) (by simp)).mono ?_
    rintro e w1 ⟨rfl, g1, ho1, hf1, hk1⟩
    have hka : Keeps nowhere w w1 := ((Keeps.refl nowhere w).alloc _).trans hk1 fun b hb e => e.elim (fun e => by omega) (fun e => by cases e)
    have hab1 : Above w.heap.size g1 := fun b hb => (hf1 b hb).elim (fun e => by cases e) (fun h => by simp at h; omega)
    have Ho1 := Lib.hid ho1
    have Hf1 := Lib.hid hf1
    have Hk1 := Lib.hid hk1
    have Hka := Lib.hid hka
    have Hab1 := Lib.hid hab1
    clear ho1 hf1 hk1 hka hab1
    go_wp2_with fail
    refine (out_raw _ g1 g _ B _ _ Ho1.out (Hr.out.keep Hka.out (fun _ _ h => h)) (by simp [nb_len]; omega)).mono ?_
    rintro e w2 ⟨rfl, g2, ho2, hf2, hk2⟩
    have hkb : Keeps nowhere w w2 := Hka.out.trans hk2 fun b hb e => e.elim (fun e => by omega) (fun e => by have := Hab1.out b e.symm; omega)
    have Ho2 := Lib.hid ho2
    have Hf2 := Lib.hid hf2
    have Hk2 := Lib.hid hk2
    have Hkb := Lib.hid hkb
    clear ho2 hf2 hk2 hkb
    go_wp2_with fail
    refine (out_bytes _ g2 _ _ Ho2.out (by simp [nb_len]; omega)).mono ?_
    rintro e w3 ⟨v3, g3, rfl, hr3, hf3, hk3⟩
    have Hr3 := Lib.hid hr3
    have Hf3 := Lib.hid hf3
    have Hk3 := Lib.hid hk3
    clear hr3 hf3 hk3
    go_wp2_with fail
    go_ret2
    have hs := Hkb.out.size
    exact ⟨v3, g3, by rw [wrapE, if_neg hl]; rfl, by rw [wrapB, if_neg hl]; exact Hr3.out, fun b hb => Nat.le_trans hs (Hf3.out b hb), Hkb.out.more Hk3.out⟩

set_option maxHeartbeats 800000 in
set_option maxRecDepth 20000 in
theorem ref_wrap (v0 : Value) (g : Option Nat) (B : List UInt8) (w : World) (hr : Rd w v0 g (B.map bv)) (hB : B.length ≤ 1099511627776) :
    Calls Try.prog 16 #[v0] w (RetWrap w B) := by
  obtain ⟨A, c, rfl, hlc, hcm⟩ := hr.form
  rw [List.length_map] at *
  clear hcm
  have hw4 : IntKind.i64.wrap ((B.length : Int) + 4) = (B.length : Int) + 4 := IntWalk.i64_in _ (by omega)
  have hwu : IntKind.u64.wrap ((B.length : Int) + 4) = (B.length : Int) + 4 := IntWalk.u64_in _ (by omega)
  by_cases hl : 8188 < B.length
  · have hl' : (8192 : Int) < (B.length : Int) + 4 := by omega
    have Hr := Lib.hid hr
    clear hr
    go_enter Try.func16, Try.ntmps16
    go_wp2_with fail
    go_ret2
    exact ⟨_, none, by rw [wrapE, if_pos hl]; rfl, by rw [wrapB, if_pos hl]; exact Rd.nil _, Above.none _, Keeps.refl _ _⟩
  · have hl' : ¬ (8192 : Int) < (B.length : Int) + 4 := by omega
    have Hr := Lib.hid hr
    have Hlc := Lib.hid hlc
    clear hr hlc
    go_enter Try.func16, Try.ntmps16
    go_wp2_with fail
    refine (ref_num 4 ((B.length : Int) + 4) w (by omega) (by omega)).mono ?_
    rintro e w1 ⟨v1, rfl, ho1, hab1, hk1⟩
    have hr1 := Hr.out.keep hk1 (fun _ _ h => h)
    have Ho1 := Lib.hid ho1
    have Hab1 := Lib.hid hab1
    have Hk1 := Lib.hid hk1
    have Hr1 := Lib.hid hr1
    clear ho1 hab1 hk1 hr1
    go_wp2_with (at_builtin; go_must (refine wpList_append_bytes rfl (.tmp 12) (.tmp 13) rfl v1 _ rfl Ho1.out _ g B rfl Hr1.out (by have := pb_len 4 ((B.length : Int) + 4); omega) ?_))
    intro v' w' hown' hk' hf'
    have hab' : Above w.heap.size v'.ownBlock := Hab1.out.of_from hf' (by have := Hk1.out.size; omega)
    have hkp' : Keeps nowhere w w' := Hk1.out.trans hk' (fun b hb h => absurd (Hab1.out b h) (by omega))
    have Hown' := Lib.hid hown'
    have Hab' := Lib.hid hab'
    have Hkp' := Lib.hid hkp'
    clear hown' hab' hkp'
    clear hk' hf'
    go_wp2_with fail
    go_ret2
    refine ⟨v', _, by rw [wrapE, if_neg hl]; rfl, ?_, Hab'.out, Hkp'.out⟩
    rw [wrapB, if_neg hl, frm, ← pb_in 4 _ (by omega) (by omega)]
    show Rd _ _ _ _
    exact Hown'.out.rd
end Go.Proofs.Ytblmbchjafffbaa
