/-
  sched: Pick.
-/
import Derived.Test.YtnccgmffgmfinaaQ6
import Derived.Test.YtnccgmffgmfinaaComm
namespace Go.Proofs.Ytnccgmffgmfinaa
open Go.RowKit Go.Shelf Go.Conc

theorem infoJob16 : ∃ i, Try.prog.info? 45 = some i ∧ i.bytes = 16 := by
  obtain ⟨i0, hi, _, _, hz2⟩ := info_parts infoJob
  exact ⟨i0, hi, hz2⟩
theorem mkJobs (w : World) : (Instr.makeChan 85 (.int .i64 1)).run Try.prog w = .ok (.chan (some w.heap.size)) (w.alloc (.chan 1 #[] false 0 0 false)) := by
  obtain ⟨i, hi, hb⟩ := infoJob16
  simpa using run_makeChan (P := Try.prog) (w := w) Try.underlying85 hi .i64 1 (by omega) (by rw [hb]; omega)
theorem Keeps.setChan {S : Nat → Prop} {w w' : World} (h : Keeps S w w') {c : Nat} (hc : c < w.heap.size → S c) (cap : Nat) (buf : Array Value) (cl : Bool) (s r : Nat) (tm : Bool) : Keeps S w (w'.setChan c cap buf cl s r tm) :=
  ⟨h.os, h.tape, h.output, by rw [size_setChan]; exact h.size, fun b hb hs => by
    have hne : b ≠ c := fun e => hs (by subst e; exact hc hb)
    rw [← h.block b hb hs]
    simp only [World.setChan]
    rw [Array.getElem?_setIfInBounds_ne (fun e => hne e.symm)]⟩
theorem heap_chan_keep {S : Nat → Prop} {w w' : World} {c : Nat} {o : Obj} (h : w.heap[c]? = some o) (hk : Keeps S w w') (hs : ¬ S c) : w'.heap[c]? = some o :=
  (hk.block c (Array.getElem?_eq_some_iff.1 h).1 hs).trans h

/-- the job that is picked, if any -/
def pickJ (l : List J) (i : Int) : Option J := (readyL l)[i.toNat % (readyL l).length]?
def noJ : J := ⟨0, 0, 0, false⟩
def RetPick (p : Nat) (g : Option Nat) (l : List J) (i : Int) (w : World) : Ending → World → Prop := fun e w' =>
  match pickJ l i with
  | some j => e = .returned (.tuple #[j.v, .bool true]) ∧ QAt w' p g (cutL l j.c j.t) ∧ Keeps (only2 p g) w w'
  | none => e = .returned (.tuple #[noJ.v, .bool false]) ∧ QAt w' p g l ∧ Keeps (only2 p g) w w'
theorem readyTo_mem {l : List J} {k : Nat} {j : J} (h : j ∈ readyTo l k) : j ∈ l := by
  obtain ⟨i, _, hi⟩ := List.mem_filterMap.1 h
  split at hi
  · exact List.mem_of_getElem? hi
  · cases hi
theorem any_self {l : List J} {j : J} (h : j ∈ l) : l.any (isJ j.c j.t) = true := List.any_eq_true.2 ⟨j, h, by simp [isJ]⟩

theorem job_set {w : World} {q : Nat} {v0 v1 v2 v3 : Value} (hb : Blk w q 45 #[v0, v1, v2, v3]) (j : J) :
    ∃ w', w' = (((w.setCell ⟨q, 0, none⟩ (.int .i64 j.c)).setCell ⟨q, 1, none⟩ (.int .u16 j.t)).setCell ⟨q, 2, none⟩ (.int .u16 j.o)).setCell ⟨q, 3, none⟩ (.bool j.s) ∧
      Blk w' q 45 #[.int .i64 j.c, .int .u16 j.t, .int .u16 j.o, .bool j.s] ∧ Keeps (only q) w w' := by
  refine ⟨_, rfl, ?_, ?_⟩
  · simpa using (((hb.set_ 0 (.int .i64 j.c)).set_ 1 (.int .u16 j.t)).set_ 2 (.int .u16 j.o)).set_ 3 (.bool j.s)
  · exact ((((Keeps.refl (only q) w).setCell (p := ⟨q, 0, none⟩) (fun _ => rfl) _).setCell (p := ⟨q, 1, none⟩) (fun _ => rfl) _).setCell (p := ⟨q, 2, none⟩) (fun _ => rfl) _).setCell (p := ⟨q, 3, none⟩) (fun _ => rfl) _

set_option maxRecDepth 8000 in
set_option maxHeartbeats 2000000 in
theorem qpick_some (w : World) (p : Nat) (g : Option Nat) (l : List J) (i : Int) (j : J) (h : QAt w p g l) (hl : l.length ≤ 512) (hi63 : i ≤ 9223372036854775807) (hj : pickJ l i = some j) :
    Calls Try.prog 25 #[qp p, .int .i64 i] w (RetPick p g l i w) := by
  have hRP : RetPick p g l i w = fun e w' => e = .returned (.tuple #[j.v, .bool true]) ∧ QAt w' p g (cutL l j.c j.t) ∧ Keeps (only2 p g) w w' := by unfold RetPick; rw [hj]
  rw [hRP]
  clear hRP
  obtain ⟨n, hn⟩ : ∃ n, n = (readyL l).length := ⟨_, rfl⟩
  obtain ⟨m, hm⟩ : ∃ m, m = i.toNat % n := ⟨_, rfl⟩
  unfold pickJ at hj
  rw [← hn, ← hm] at hj
  have hmn : m < n := by rw [hn]; exact (List.getElem?_eq_some_iff.1 hj).1
  have hn512 : n ≤ 512 := by rw [hn]; exact Nat.le_trans (readyTo_len l l.length) hl
  have hjl : j ∈ l := readyTo_mem (List.mem_of_getElem? hj)
  have hany := any_self hjl
  have hk0 := ((Keeps.refl nowhere w).alloc (.cells #[.int .i64 0, .int .u16 0, .int .u16 0, .bool false] 45)).alloc (.chan 1 #[] false 0 0 false)
  have hb0 := (Blk.new w 45 #[.int .i64 0, .int .u16 0, .int .u16 0, .bool false]).alloc (.chan 1 #[] false 0 0 false)
  have hc0 := heap_alloc_new (w.alloc (.cells #[.int .i64 0, .int .u16 0, .int .u16 0, .bool false] 45)) (.chan 1 #[] false 0 0 false)
  have hR := qReady_any _ p g l (h.same hk0) hl
  have hq0 := h.same hk0
  have hmk := mkJobs
  unfold qp at hR ⊢
  have hplt := h.lt.1
  have hglt := h.lt.2.1
  clear h
  have Hk0 := Lib.hid hk0
  have Hb0 := Lib.hid hb0
  have Hc0 := Lib.hid hc0
  have HR := Lib.hid hR
  have Hj := Lib.hid hj
  have Hjl := Lib.hid hjl
  have Hany := Lib.hid hany
  have Hq0 := Lib.hid hq0
  clear hk0 hb0 hc0 hR hj hjl hany hq0
  refine calls_of_wpN Try.func25 rfl ?_
  simp only [Try.ntmps25]
  simp only [List.size_toArray, List.length_cons, List.length_nil, Nat.reduceAdd, Nat.reduceSub, Array.replicate_succ, Array.replicate_zero, List.push_toArray, List.append_toArray, List.nil_append, List.cons_append]
  refine wpN_seq (wpN_of ?_)
  go_wp2_with fail
  refine wpN_seq (wpN_of ?_)
  go_wp2_with fail
  refine wpN_seq ?_
  refine wpN_seq (wpN_of ?_)
  go_wp2_with fail
  refine HR.out.mono ?_
  rintro e w1 ⟨v1, g1, rfl, hr1, hg1, hk1⟩
  obtain ⟨A, cap, rfl, hlc, hcm, hu1, h3, -⟩ := hr1
  rw [← hn] at hlc h3 ⊢
  obtain ⟨b, off, rfl, rfl, hcs⟩ := h3 (by omega)
  obtain ⟨d0, d1, d2, d3⟩ := hcs m j Hj.out
  have hc1 := heap_chan_keep Hc0.out hk1 (fun h => h)
  have hb1 := Hb0.out.keep hk1 (fun h => h)
  have hk2 := Hk0.out.more hk1
  have hq1 := Hq0.out.same hk1
  have hbw : b < w1.heap.size := hu1 b rfl
  have hn0 : (0 : Int) < n := by omega
  have hnn : ¬ (n : Int) = 0 := by omega
  have hnn2 : ¬ n = 0 := by omega
  have hm2 : m < n := hmn
  have hmx : (max i 0).tmod n = m := by
    rw [Int.tmod_eq_emod_of_nonneg (by omega), show max i 0 = (i.toNat : Int) by omega, hm]; simp
  have hmx2 : (max i 0) % n = m := by rw [show max i 0 = (i.toNat : Int) by omega, hm]; simp
  have hm0 : (0 : Int) ≤ m := by omega
  have hm1 : (m : Int) < n := by omega
  have hwm : IntKind.i64.wrap (m : Int) = m := IntWalk.i64_in _ (by omega)
  clear hcs hg1 hk1
  have Hc1 := Lib.hid hc1
  have Hb1 := Lib.hid hb1
  have Hk2 := Lib.hid hk2
  have Hq1 := Lib.hid hq1
  have Hm := Lib.hid hm
  have Hn := Lib.hid hn
  clear hc1 hb1 hk2 hq1 hm hn
  go_wp2_with fail
  refine wpN_seq (wpN_of ?_)
  go_wp2_with fail
  refine wpN_cond (t := decide (0 < n)) rfl ?_
  rw [if_pos (decide_eq_true (by omega))]
  refine wpN_region ?_
  show RegN _ _ [0, 1, 2, 3, 4, 5, 6, 7, 8, 9] _ _ _
  iterate 9
    refine regN_value (w' := w1) rfl rfl (by go_simp; rfl) ?_
    simp only [Act.put, List.setIfInBounds_toArray, List.set_cons_zero, List.set_cons_succ]
  have hc2 : w1.heap[w.heap.size + 1]? = some (.chan 1 #[] false 0 0 false) := by simpa using Hc1.out
  have hcw : w.heap.size + 1 < w1.heap.size := (Array.getElem?_eq_some_iff.1 hc2).1
  refine regN_send (c := w.heap.size + 1) (v := j.v) (z := .tuple #[]) (w1 := w1) rfl rfl (by simp [execOp, scase, Act.eval, J.v]) hc2 (by simp) ?_
  refine regN_nil ⟨rfl, ?_⟩
  simp only [Act.put]
  have hk3 : Keeps (only (w.heap.size + 1)) w1 (w1.setChan (w.heap.size + 1) 1 ((#[] : Array Value).push j.v) false (0 + 1) 0 false) := (Keeps.refl (only (w.heap.size + 1)) w1).setChan (c := w.heap.size + 1) (fun _ => rfl) _ _ _ _ _ _
  have hc3 := heap_setChan w1 (w.heap.size + 1) 1 ((#[] : Array Value).push j.v) false (0 + 1) 0 false hcw
  generalize w1.setChan (w.heap.size + 1) 1 ((#[] : Array Value).push j.v) false (0 + 1) 0 false = w2 at *
  clear hc2 d0 d1 d2 d3
  have Hk3 := Lib.hid hk3
  have Hc3 := Lib.hid hc3
  clear hk3 hc3
  refine wpN_seq (wpN_of ?_)
  go_wp2_with fail
  refine wpN_seq ?_
  refine wpN_region ?_
  show RegN _ _ [0, 1, 2] _ _ _
  refine regN_select (c := w.heap.size + 1) (z := noJ.v) (w1 := w2) rfl rfl (by simp [go_sem, rcase, noJ, J.v, Try.zeroValue45]) Hc3.out (by simp) ?_
  have hk4 : Keeps (only (w.heap.size + 1)) w1 (w2.setChan (w.heap.size + 1) 1 (((#[] : Array Value).push j.v).extract 1 ((#[] : Array Value).push j.v).size) false (0 + 1) (0 + 1) false) := Hk3.out.setChan (c := w.heap.size + 1) (fun _ => rfl) _ _ _ _ _ _
  generalize w2.setChan (w.heap.size + 1) 1 (((#[] : Array Value).push j.v).extract 1 ((#[] : Array Value).push j.v).size) false (0 + 1) (0 + 1) false = w3 at *
  simp only [Act.put, List.setIfInBounds_toArray, List.set_cons_zero, List.set_cons_succ, show ((#[] : Array Value).push j.v).getD 0 undef = j.v from rfl]
  unfold J.v
  have Hk4 := Lib.hid hk4
  clear hk4
  iterate 2
    refine regN_value (w' := w3) rfl rfl (by go_simp; rfl) ?_
    simp only [Act.put, List.setIfInBounds_toArray, List.set_cons_zero, List.set_cons_succ]
  refine regN_nil ⟨rfl, ?_⟩
  refine wpN_of ?_
  go_wp2_with fail
  have hkn : Keeps nowhere w w3 := Hk2.out.trans Hk4.out (fun b hb e => by unfold only at e; omega)
  have hlt0 := Hq0.out.lt
  have hqlt := Hq1.out.lt
  have hq4 : QAt (w3.alloc (.cells #[.int .i64 j.c, .int .u16 j.t, .int .u16 j.o, .bool j.s] 45)) p g l := by
    refine (Hq1.out.keep Hk4.out (fun e => ?_) (fun b hb e => ?_)).same ((Keeps.refl nowhere w3).alloc _)
    · unfold only at e; have := hplt; omega
    · unfold only at e; have := hglt b hb; omega
  have hbx := Blk.new w3 45 #[.int .i64 j.c, .int .u16 j.t, .int .u16 j.o, .bool j.s]
  have hb4 := (Hb1.out.keep Hk4.out (fun e => by unfold only at e; omega)).alloc (.cells #[.int .i64 j.c, .int .u16 j.t, .int .u16 j.o, .bool j.s] 45)
  have hk5 := hkn.alloc (.cells #[.int .i64 j.c, .int .u16 j.t, .int .u16 j.o, .bool j.s] 45)
  have hsz3 := hkn.size
  have hn3 : ¬ only2 p g w3.heap.size := by
    rintro (e | e)
    · omega
    · have := hglt _ e.symm; omega
  have hn0' : ¬ only2 p g w.heap.size := by
    rintro (e | e)
    · omega
    · have := hglt _ e.symm; omega
  generalize hq : w3.heap.size = q at *
  generalize w3.alloc (.cells #[.int .i64 j.c, .int .u16 j.t, .int .u16 j.o, .bool j.s] 45) = w4 at *
  have r0 : ∀ w', Keeps (only2 p g) w4.drew w' → w'.cell? ⟨q, 0, none⟩ = some (.int .i64 j.c) := fun w' hs => by simpa using (hbx.keep (w := w4.drew) hs hn3).cell 0
  have r1 : ∀ w', Keeps (only2 p g) w4.drew w' → w'.cell? ⟨q, 1, none⟩ = some (.int .u16 j.t) := fun w' hs => by simpa using (hbx.keep (w := w4.drew) hs hn3).cell 1
  have r2 : ∀ w', Keeps (only2 p g) w4.drew w' → w'.cell? ⟨q, 2, none⟩ = some (.int .u16 j.o) := fun w' hs => by simpa using (hbx.keep (w := w4.drew) hs hn3).cell 2
  have r3 : ∀ w', Keeps (only2 p g) w4.drew w' → w'.cell? ⟨q, 3, none⟩ = some (.bool j.s) := fun w' hs => by simpa using (hbx.keep (w := w4.drew) hs hn3).cell 3
  have e1 : w4.cell? ⟨q, 1, none⟩ = some (.int .u16 j.t) := by simpa using hbx.cell 1
  have hC := qcut_any w4.drew p g l j.c j.t (hq4.keep (S := nowhere) ((Keeps.refl nowhere w4).drew) (fun h => h) (fun _ _ h => h)) hl
  rw [Hany.out] at hC
  unfold qp at hC
  clear hq hbx
  have Hkn := Lib.hid hkn
  have Hlt0 := Lib.hid hlt0
  have Hqlt := Lib.hid hqlt
  have Hq4 := Lib.hid hq4
  have Hb4 := Lib.hid hb4
  have Hk5 := Lib.hid hk5
  have HC := Lib.hid hC
  have Hn3 := Lib.hid hn3
  have Hn0' := Lib.hid hn0'
  clear hkn hlt0 hqlt hq4 hb4 hk5 hC hn3 hn0'
  refine wp_region_script [0, 1, 2, 3, 4] [0, 3] [.fs [0], .ps [1, 2], .fs [3], .ps [4], .es [5] true, .es [6] true, .es [7, 8] false] (Keeps (only2 p g) w4.drew) rfl (by kernel_rfl) ?_
  refine wpS_fs rfl (Keeps.refl _ _) fun K hK => ?_
  simp only [List.map_cons, List.map_nil, Option.getD_some, List.getElem?_toArray, List.getElem?_cons_zero, List.getElem?_cons_succ]
  iterate 1 (first | (apply quietO_cons _ rfl; (intro w' hs; have c_0 := r0 w' hs; have c_1 := r1 w' hs; have c_2 := r2 w' hs; have c_3 := r3 w' hs; go_simp; rfl)) | apply quietO_skip rfl)
  refine hK _ ?_
  clear hK K
  simp only [Act.put, List.setIfInBounds_toArray, List.set_cons_zero, List.set_cons_succ]
  refine wpS_ps rfl fun K hK => ?_
  simp only [List.map_cons, List.map_nil, Option.getD_some, List.getElem?_toArray, List.getElem?_cons_zero, List.getElem?_cons_succ]
  iterate 2 (first | (apply quietO_cons _ rfl; (intro w' _; go_simp; rfl)) | apply quietO_skip rfl)
  refine hK _ ?_
  clear hK K
  simp only [Act.put, List.setIfInBounds_toArray, List.set_cons_zero, List.set_cons_succ]
  refine wpS_fs rfl (Keeps.refl _ _) fun K hK => ?_
  simp only [List.map_cons, List.map_nil, Option.getD_some, List.getElem?_toArray, List.getElem?_cons_zero, List.getElem?_cons_succ]
  iterate 1 (first | (apply quietO_cons _ rfl; (intro w' hs; have c_0 := r0 w' hs; go_simp; rfl)) | apply quietO_skip rfl)
  refine hK _ ?_
  clear hK K
  simp only [Act.put, List.setIfInBounds_toArray, List.set_cons_zero, List.set_cons_succ]
  refine wpS_ps rfl fun K hK => ?_
  simp only [List.map_cons, List.map_nil, Option.getD_some, List.getElem?_toArray, List.getElem?_cons_zero, List.getElem?_cons_succ]
  iterate 1 (first | (apply quietO_cons _ rfl; (intro w' _; go_simp; rfl)) | apply quietO_skip rfl)
  refine hK _ ?_
  clear hK K
  simp only [Act.put, List.setIfInBounds_toArray, List.set_cons_zero, List.set_cons_succ]
  clear r0 r1 r2 r3
  refine wpS_es rfl fun K hK => ?_
  have HK := Lib.hid hK
  clear hK
  simp only [List.map_cons, List.map_nil, Option.getD_some, List.getElem?_toArray, List.getElem?_cons_zero, List.getElem?_cons_succ]
  go_wp2_with fail
  refine HK.out _ _ (fun _ => Keeps.refl _ _) ?_
  clear HK K
  refine wpS_es rfl fun K hK => ?_
  have HK := Lib.hid hK
  clear hK
  simp only [List.map_cons, List.map_nil, Option.getD_some, List.getElem?_toArray, List.getElem?_cons_zero, List.getElem?_cons_succ]
  go_wp2_with fail
  refine HC.out.mono ?_
  rintro e w5 ⟨rfl, hq5, hk6⟩
  have hb5 := Hb4.out.keep (w := w4.drew) hk6 Hn0'.out
  have Hk6 := Lib.hid hk6
  have Hq5 := Lib.hid hq5
  clear hk6 hq5
  go_wp2_with fail
  refine HK.out _ _ (fun _ => Hk6.out) ?_
  clear HK K
  refine wpS_es rfl fun K hK => ?_
  have HK := Lib.hid hK
  clear hK
  simp only [List.map_cons, List.map_nil, Option.getD_some, List.getElem?_toArray, List.getElem?_cons_zero, List.getElem?_cons_succ]
  obtain ⟨w6, hw6, hb6, hk7⟩ := job_set hb5 j
  have z0 := hb5.cell 0
  have z1 := hb5.cell 1
  have z2 := hb5.cell 2
  have z3 := hb5.cell 3
  have y0 := hb5.frozen 0
  have y1 := hb5.frozen 1
  have y2 := hb5.frozen 2
  have y3 := hb5.frozen 3
  simp at z0 z1 z2 z3
  clear hb5
  have Hw6 := Lib.hid hw6
  have Hb6 := Lib.hid hb6
  have Hk7 := Lib.hid hk7
  clear hw6 hb6 hk7
  go_wp2_with fail
  refine HK.out _ _ (fun h => by cases h) ?_
  clear HK K
  refine wpS_nil ?_
  rw [← Hw6.out]
  have c0 := Hb6.out.cell 0
  have c1 := Hb6.out.cell 1
  have c2 := Hb6.out.cell 2
  have c3 := Hb6.out.cell 3
  simp at c0 c1 c2 c3
  go_wp2_with fail
  have hq6 : QAt w6 p g (cutL l j.c j.t) := Hq5.out.keep Hk7.out (fun e => by unfold only at e; omega) (fun b' hb e => by unfold only at e; have := hglt b' hb; omega)
  have hk8 : Keeps (only2 p g) w w6 := (((Hk5.out.drew.mono (fun _ _ h => h.elim)).trans Hk6.out (fun _ _ h => h)).trans Hk7.out (fun b' hb e => by unfold only at e; omega))
  exact bodyPost_ret (v := .tuple #[.agg #[.int .i64 j.c, .int .u16 j.t, .int .u16 j.o, .bool j.s], .bool true]) (by simp [results, Try.results25, go_sem, c0, c1, c2, c3]) rfl ⟨rfl, hq6, hk8⟩

set_option maxRecDepth 8000 in
set_option maxHeartbeats 2000000 in
theorem qpick_none (w : World) (p : Nat) (g : Option Nat) (l : List J) (i : Int) (h : QAt w p g l) (hl : l.length ≤ 512) (hj : pickJ l i = none) :
    Calls Try.prog 25 #[qp p, .int .i64 i] w (RetPick p g l i w) := by
  have hRP : RetPick p g l i w = fun e w' => e = .returned (.tuple #[noJ.v, .bool false]) ∧ QAt w' p g l ∧ Keeps (only2 p g) w w' := by unfold RetPick; rw [hj]
  rw [hRP]
  clear hRP
  have hn : (readyL l).length = 0 := by
    unfold pickJ at hj
    have := List.getElem?_eq_none_iff.1 hj
    rcases Nat.eq_zero_or_pos (readyL l).length with h | h
    · exact h
    · have := Nat.mod_lt i.toNat h; omega
  have hplt := h.lt.1
  have hglt := h.lt.2.1
  have hk0 := ((Keeps.refl nowhere w).alloc (.cells #[.int .i64 0, .int .u16 0, .int .u16 0, .bool false] 45)).alloc (.chan 1 #[] false 0 0 false)
  have hb0 := (Blk.new w 45 #[.int .i64 0, .int .u16 0, .int .u16 0, .bool false]).alloc (.chan 1 #[] false 0 0 false)
  have hc0 := heap_alloc_new (w.alloc (.cells #[.int .i64 0, .int .u16 0, .int .u16 0, .bool false] 45)) (.chan 1 #[] false 0 0 false)
  have hR := qReady_any _ p g l (h.same hk0) hl
  have hq0 := h.same hk0
  have hmk := mkJobs
  unfold qp at hR ⊢
  unfold noJ J.v
  clear h hj
  have Hk0 := Lib.hid hk0
  have Hb0 := Lib.hid hb0
  have Hc0 := Lib.hid hc0
  have HR := Lib.hid hR
  have Hq0 := Lib.hid hq0
  clear hk0 hb0 hc0 hR hq0
  refine calls_of_wpN Try.func25 rfl ?_
  simp only [Try.ntmps25]
  simp only [List.size_toArray, List.length_cons, List.length_nil, Nat.reduceAdd, Nat.reduceSub, Array.replicate_succ, Array.replicate_zero, List.push_toArray, List.append_toArray, List.nil_append, List.cons_append]
  refine wpN_seq (wpN_of ?_)
  go_wp2_with fail
  refine wpN_seq (wpN_of ?_)
  go_wp2_with fail
  refine wpN_seq ?_
  refine wpN_seq (wpN_of ?_)
  go_wp2_with fail
  refine HR.out.mono ?_
  rintro e w1 ⟨v1, g1, rfl, hr1, hg1, hk1⟩
  obtain ⟨A, cap, rfl, -, -, -, -, -⟩ := hr1
  rw [hn]
  have hc1 := heap_chan_keep Hc0.out hk1 (fun h => h)
  have hb1 := Hb0.out.keep hk1 (fun h => h)
  have hk2 := Hk0.out.more hk1
  have hq1 := Hq0.out.same hk1
  clear hg1 hk1
  have Hc1 := Lib.hid hc1
  have Hb1 := Lib.hid hb1
  have Hk2 := Lib.hid hk2
  have Hq1 := Lib.hid hq1
  clear hc1 hb1 hk2 hq1
  go_wp2_with fail
  refine wpN_seq (wpN_of ?_)
  go_wp2_with fail
  refine wpN_cond (t := false) rfl ?_
  rw [if_neg (by simp)]
  refine wpN_of ?_
  go_wp2_with fail
  have hc2 : w1.heap[w.heap.size + 1]? = some (.chan 1 #[] false 0 0 false) := by simpa using Hc1.out
  have Hc2 := Lib.hid hc2
  clear hc2
  refine wpN_seq (wpN_of ?_)
  go_wp2_with fail
  refine wpN_seq ?_
  refine wpN_region ?_
  show RegN _ _ [0, 1, 2] _ _ _
  refine regN_default (c := w.heap.size + 1) (z := noJ.v) (w1 := w1) rfl rfl (by simp [go_sem, rcase, noJ, J.v, Try.zeroValue45]) Hc2.out ?_
  simp only [Act.put, List.setIfInBounds_toArray, List.set_cons_zero, List.set_cons_succ]
  iterate 2
    refine regN_value (w' := w1) rfl rfl (by go_simp; rfl) ?_
    simp only [Act.put, List.setIfInBounds_toArray, List.set_cons_zero, List.set_cons_succ]
  refine regN_nil ⟨rfl, ?_⟩
  obtain ⟨w6, hw6, hb6, hk7⟩ := job_set Hb1.out noJ
  have z0 := Hb1.out.cell 0
  have z1 := Hb1.out.cell 1
  have z2 := Hb1.out.cell 2
  have z3 := Hb1.out.cell 3
  have y0 := Hb1.out.frozen 0
  have y1 := Hb1.out.frozen 1
  have y2 := Hb1.out.frozen 2
  have y3 := Hb1.out.frozen 3
  simp at z0 z1 z2 z3
  replace hw6 : w6 = (((w1.setCell ⟨w.heap.size, 0, none⟩ (.int .i64 0)).setCell ⟨w.heap.size, 1, none⟩ (.int .u16 0)).setCell ⟨w.heap.size, 2, none⟩ (.int .u16 0)).setCell ⟨w.heap.size, 3, none⟩ (.bool false) := hw6
  have c0 : w6.cell? ⟨w.heap.size, 0, none⟩ = some (.int .i64 0) := hb6.cell 0
  have c1 : w6.cell? ⟨w.heap.size, 1, none⟩ = some (.int .u16 0) := hb6.cell 1
  have c2 : w6.cell? ⟨w.heap.size, 2, none⟩ = some (.int .u16 0) := hb6.cell 2
  have c3 : w6.cell? ⟨w.heap.size, 3, none⟩ = some (.bool false) := hb6.cell 3
  have hq6 : QAt w6 p g l := Hq1.out.keep hk7 (fun e => by unfold only at e; omega) (fun b' hb e => by unfold only at e; have := hglt b' hb; omega)
  have hk8 : Keeps (only2 p g) w w6 := (Hk2.out.trans hk7 (fun b' hb e => by unfold only at e; omega)).mono (fun _ _ h => h.elim)
  clear hb6 hk7
  have Hw6 := Lib.hid hw6
  have Hq6 := Lib.hid hq6
  have Hk8 := Lib.hid hk8
  clear hw6 hq6 hk8
  refine wpN_of ?_
  go_wp2_with fail
  rw [← Hw6.out]
  exact bodyPost_ret (v := .tuple #[.agg #[.int .i64 0, .int .u16 0, .int .u16 0, .bool false], .bool false]) (by simp [results, Try.results25, go_sem, c0, c1, c2, c3]) rfl ⟨rfl, Hq6.out, Hk8.out⟩

theorem qpick_any (w : World) (p : Nat) (g : Option Nat) (l : List J) (i : Int) (h : QAt w p g l) (hl : l.length ≤ 512) (hi63 : i ≤ 9223372036854775807) :
    Calls Try.prog 25 #[qp p, .int .i64 i] w (RetPick p g l i w) := by
  cases hj : pickJ l i with
  | some j => exact qpick_some w p g l i j h hl hi63 hj
  | none => exact qpick_none w p g l i h hl hj
end Go.Proofs.Ytnccgmffgmfinaa
