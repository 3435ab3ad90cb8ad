/-
  disk: Sync.
-/
import Derived.Test.YtnddaildicmneaaDk8
namespace Go.Proofs.Ytnddaildicmneaa
open Go.Proofs Go.RowKit Go.Sort Go.Maps
section
variable {w : World} {d b : Nat} {kv kp : Value} {ks : List SlV} {vs : List Value} {D : DiskV}
/-- the result's box: laid at the call's beginning -/
theorem box_new (w : World) (x : Int) : Blk (w.alloc (.cells #[.int .i64 x] 34)) w.heap.size 34 #[.int .i64 x] := Blk.new _ _ _
set_option maxHeartbeats 2000000 in
theorem dsync_off (h : DAt w d b kv kp ks vs D) (ho : D.off = true) : Calls Try.prog 26 #[.pointer (some ⟨d, 0, none⟩)] w fun e w' => e = .returned (.int .i64 22) ∧ Keeps nowhere w w' := by
  obtain ⟨q, hq⟩ : ∃ q, q = w.heap.size := ⟨_, rfl⟩
  obtain ⟨w1, hw1⟩ : ∃ w1, w1 = w.alloc (.cells #[.int .i64 0] 34) := ⟨_, rfl⟩
  have hk1 : Keeps nowhere w w1 := by rw [hw1]; exact (Keeps.refl nowhere w).alloc _
  have hbx : Blk w1 q 34 #[.int .i64 0] := by rw [hw1, hq]; exact box_new w 0
  have hon := don_off (h.same hk1) ho
  have hk2 : Keeps nowhere w (w1.setCell ⟨q, 0, none⟩ (.int .i64 22)) := hk1.setCell (p := ⟨q, 0, none⟩) (fun hlt => by simp at hlt; omega) _
  have hb2 := (hbx.set_ 0 (.int .i64 22)).cell 0
  simp at hb2
  have H := Lib.hid h
  have Hon := Lib.hid hon
  have Hw1 := Lib.hid hw1
  have Hq := Lib.hid hq
  have Hk1 := Lib.hid hk1
  have Hbx := Lib.hid hbx
  have Hk2 := Lib.hid hk2
  clear h hon hw1 hq hk1 hbx hk2
  go_enter_defers Try.func26, Try.ntmps26
  go_upto_region 2 with fail
  rw [← Hw1.out]
  simp only [← Hq.out]
  go_wp2_with fail
  refine Hon.out.mono ?_
  rintro e w' ⟨rfl, rfl⟩
  refine leaves_cons (f := 52) (args := #[.pointer (some ⟨q, 0, none⟩)]) (by simp) (by simp [go_sem]) ?_
  refine (dcaught_panic q 22 _ [] w1 Hbx.out).mono ?_
  rintro e u' w'' ⟨rfl, rfl, rfl⟩
  simp [Leaves, settle, results, Try.results26, go_sem, hb2]
  exact Hk2.out
set_option maxHeartbeats 2000000 in
theorem dsync_on (h : DAt w d b kv kp ks vs D) (ho : D.off = false) (hn : D.pend.length ≤ 90000) : Calls Try.prog 26 #[.pointer (some ⟨d, 0, none⟩)] w fun e w' => e = .returned (.int .i64 0) ∧ ∃ b', w.heap.size ≤ b' ∧ (∃ ks', DAt w' d b' kv kp ks' [] D.sync) ∧ Keeps (DS d b kv) w w' := by
  obtain ⟨q, hq⟩ : ∃ q, q = w.heap.size := ⟨_, rfl⟩
  obtain ⟨w1, hw1⟩ : ∃ w1, w1 = w.alloc (.cells #[.int .i64 0] 34) := ⟨_, rfl⟩
  have hk1 : Keeps nowhere w w1 := by rw [hw1]; exact (Keeps.refl nowhere w).alloc _
  have hbx : Blk w1 q 34 #[.int .i64 0] := by rw [hw1, hq]; exact box_new w 0
  have h1 := h.same hk1
  have hon := don_on h1 ho
  have hset := dsettle_any 57 #[] (enters_of Try.func57 (by kernel_rfl) rfl) (fun _ => true) h1 (fun W i _ _ => (sync1_any i W).mono (fun e w' ⟨he, hw⟩ => ⟨he, by rw [hw]; exact Keeps.refl _ _⟩)) hn
  have hqd : ¬ DS d b kv q := by
    rintro (e | e | e)
    · have := h.box.lt; omega
    · have := h.map.lt; omega
    · have := h.kept.lt q e; omega
  have H := Lib.hid h
  have H1 := Lib.hid h1
  have Hon := Lib.hid hon
  have Hset := Lib.hid hset
  have Hw1 := Lib.hid hw1
  have Hq := Lib.hid hq
  have Hk1 := Lib.hid hk1
  have Hbx := Lib.hid hbx
  have Hqd := Lib.hid hqd
  clear h h1 hon hset hw1 hq hk1 hbx hqd
  go_enter_defers Try.func26, Try.ntmps26
  go_upto_region 2 with fail
  rw [← Hw1.out]
  simp only [← Hq.out]
  go_wp2_with fail
  refine Hon.out.mono ?_
  rintro e w' ⟨rfl, rfl⟩
  go_wp2_with fail
  refine Hset.out.mono ?_
  rintro e w2 ⟨rfl, b', hb', ⟨ks', hd⟩, hk2⟩
  have hbx2 := Hbx.out.keep hk2 Hqd.out
  have c0 := hbx2.cell 0
  have f0 := hbx2.frozen 0
  simp at c0
  have hk3 : Keeps (only q) w2 (w2.setCell ⟨q, 0, none⟩ (.int .i64 0)) := (Keeps.refl (only q) w2).setCell (p := ⟨q, 0, none⟩) (fun _ => rfl) _
  have hb3 := (hbx2.set_ 0 (.int .i64 0)).cell 0
  simp at hb3
  have hd3 : DAt (w2.setCell ⟨q, 0, none⟩ (.int .i64 0)) d b' kv kp ks' [] D.sync := hd.keepAll hk3 (fun k hk e => by
    have e2 : k = q := e
    subst e2
    rcases hk with e | e | e
    · exact Hqd.out (.inl e)
    · have := Hbx.out.lt; omega
    · exact Hqd.out (.inr (.inr e))) (fun k e cs T fr hh => by
    have e2 : k = q := e
    subst e2
    unfold Blk at hbx2
    rw [hbx2] at hh
    injection hh with hh
    injection hh with _ hh
    rw [← hh]; decide)
  have hk4 : Keeps (DS d b kv) w (w2.setCell ⟨q, 0, none⟩ (.int .i64 0)) := ((Hk1.out.mono (T := DS d b kv) (fun _ _ h => h.elim)).trans hk2 (fun _ _ h => h)).trans hk3 (fun k hk e => by have e2 : k = q := e; have := Hq.out; omega)
  have hb4 : w.heap.size ≤ b' := Nat.le_trans Hk1.out.size hb'
  clear hd hk2 hbx2
  have Hd3 := Lib.hid hd3
  have Hk4 := Lib.hid hk4
  have Hb4 := Lib.hid hb4
  have Hk3 := Lib.hid hk3
  clear hd3 hk4 hb4 hk3
  go_wp2_with fail
  refine leaves_cons (f := 52) (args := #[.pointer (some ⟨q, 0, none⟩)]) (by simp) (by simp [go_sem]) ?_
  refine (dcaught_idle q _).mono ?_
  rintro e u' w'' ⟨rfl, rfl, rfl⟩
  simp [Leaves, settle, results, Try.results26, go_sem, hb3]
  exact ⟨b', Hb4.out, ⟨ks', Hd3.out⟩, Hk4.out⟩
end
end Go.Proofs.Ytnddaildicmneaa
