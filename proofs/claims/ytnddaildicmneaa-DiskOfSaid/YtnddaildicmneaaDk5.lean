/-
  disk: On, Arm, Shape; a field of the disk set.
-/
import Derived.Test.YtnddaildicmneaaDk4
namespace Go.Proofs.Ytnddaildicmneaa
open Go.Proofs Go.RowKit Go.Sort Go.Maps

section
variable {w w' : World} {d b : Nat} {kv kp : Value} {ks : List SlV} {vs : List Value} {D : DiskV}
/-- fields of the disk are set -/
theorem DAt.turn (h : DAt w d b kv kp ks vs D) (hk : Keeps (only d) w w') {off armed : Bool} {left : Int} {kp' : Value} {keep : List Bool} {writes : Nat}
    (hb : Blk w' d 97 #[.int .i64 D.size, kv, .map (some b), .bool off, .bool armed, .int .i64 left, kp', .int .i64 writes]) (hkp : recBo.Row w' kp' keep) :
    DAt w' d b kv kp' ks vs ⟨D.size, D.kept, D.pend, off, armed, left, keep, writes⟩ := by
  have hr : NotRaw w d := h.notRaw d (.inl rfl)
  exact
  { box := hb
    kept := h.kept.keep hk (fun b e hs => by have e2 : b = d := hs; subst e2; exact row_ne_blk' h.kept h.box (by decide) e)
    klen := h.klen
    sec := fun i s L h1 h2 => ⟨(h.sec i s L h1 h2).1.keep hk (fun b e hs => by have e2 : b = d := hs; subst e2; exact row_raw (h.sec i s L h1 h2).1 (.inl rfl) hr e), (h.sec i s L h1 h2).2⟩
    map := h.map.keep hk (fun e => h.map.ne_blk h.box e.symm)
    vlen := h.vlen
    pb := fun i p v h1 h2 => ⟨(h.pb i p v h1 h2).1.keep hk (fun b e hs => by have e2 : b = d := hs; subst e2; exact row_raw (h.pb i p v h1 h2).1 (.inl rfl) hr e), (h.pb i p v h1 h2).2⟩
    keep := hkp }
where
  row_ne_blk' {α : Type} {R : RecT α} {w : World} {v : Value} {l : List α} {q : Nat} {T : TypeId} {cs : Array Value} (h : R.Row w v l) (hb : Blk w q T cs) (ht : R.t ≠ T) : v.ownBlock ≠ some q := own_blk_ne h hb ht
end
/-- what a method leaves behind -/
def RetD (v : Value) (w : World) (d b : Nat) (kv : Value) (ks : List SlV) (vs : List Value) (D : DiskV) : Ending → World → Prop := fun e w' =>
  e = .returned v ∧ (∃ kp, DAt w' d b kv kp ks vs D) ∧ Keeps (only d) w w'
section
variable {w : World} {d b : Nat} {kv kp : Value} {ks : List SlV} {vs : List Value} {D : DiskV}
theorem don2_any (h : DAt w d b kv kp ks vs D) : Calls Try.prog 28 #[.pointer (some ⟨d, 0, none⟩)] w (RetD (.tuple #[]) w d b kv ks vs ⟨D.size, D.kept, D.pend, false, D.armed, D.left, D.keep, D.writes⟩) := by
  have c3 := h.cell 3
  have f3 := h.box.frozen 3
  simp at c3
  have hk := (Keeps.refl (only d) w).setCell (p := ⟨d, 3, none⟩) (fun _ => rfl) (.bool false)
  have hb := h.box.set_ 3 (.bool false)
  have hrow := h.keep.keep hk (fun b e hs => by have e2 : b = d := hs; subst e2; exact row_raw h.keep (.inr rfl) (h.notRaw _ (.inl rfl)) e)
  have hd := h.turn hk (off := false) (armed := D.armed) (left := D.left) (kp' := kp) (keep := D.keep) (writes := D.writes) (by simpa using hb) hrow
  clear h hb hrow
  have Hd := Lib.hid hd
  have Hk := Lib.hid hk
  clear hd hk
  go_enter Try.func28, Try.ntmps28
  go_wp2
  go_end0
  exact ⟨rfl, ⟨_, Hd.out⟩, Hk.out⟩
theorem dshape_any (h : DAt w d b kv kp ks vs D) : Calls Try.prog 36 #[.pointer (some ⟨d, 0, none⟩)] w fun e w' => e = .returned (.tuple #[.int .i64 D.kept.length, .int .i64 D.size]) ∧ Keeps nowhere w w' := by
  have c0 := h.cell 0
  have c1 := h.cell 1
  obtain ⟨A, c, rfl, -⟩ := h.kept.form
  simp at c0 c1
  rw [h.klen] at c1
  obtain ⟨n, hn⟩ : ∃ n, n = D.kept.length := ⟨_, rfl⟩
  rw [← hn] at c1 ⊢
  have q0 : ∀ w', w' = w.drew → w'.cell? ⟨d, 0, none⟩ = some (.int .i64 D.size) := fun w' e => by rw [e]; exact c0
  have q1 : ∀ w', w' = w.drew → w'.cell? ⟨d, 1, none⟩ = some (.slice A n c) := fun w' e => by rw [e]; exact c1
  clear h hn c0 c1
  go_enter Try.func36, Try.ntmps36
  go_wp2_with fail
  refine wp_region_script [0, 1, 2, 3, 4, 5, 6, 7, 8, 9, 10] [3, 8] [.ps [0, 1, 2], .fs [3], .ps [4, 5, 6, 7], .fs [8], .ps [9, 10]] (fun w' => w' = w.drew) rfl (by kernel_rfl) ?_
  refine wpS_ps rfl fun K hK => ?_
  simp only [List.map_cons, List.map_nil, Option.getD_some, List.getElem?_toArray, List.getElem?_cons_zero, List.getElem?_cons_succ]
  iterate 3 (first | (apply quietO_cons _ rfl; (intro w' _; go_simp; rfl)) | apply quietO_skip rfl)
  refine hK _ ?_
  clear hK K
  simp only [Act.put, List.setIfInBounds_toArray, List.set_cons_zero, List.set_cons_succ]
  refine wpS_fs rfl (rfl) fun K hK => ?_
  simp only [List.map_cons, List.map_nil, Option.getD_some, List.getElem?_toArray, List.getElem?_cons_zero, List.getElem?_cons_succ]
  iterate 1 (first | (apply quietO_cons _ rfl; (intro w' hs; have c_0 := q1 w' hs; go_simp; rfl)) | apply quietO_skip rfl)
  refine hK _ ?_
  clear hK K
  simp only [Act.put, List.setIfInBounds_toArray, List.set_cons_zero, List.set_cons_succ]
  refine wpS_ps rfl fun K hK => ?_
  simp only [List.map_cons, List.map_nil, Option.getD_some, List.getElem?_toArray, List.getElem?_cons_zero, List.getElem?_cons_succ]
  iterate 4 (first | (apply quietO_cons _ rfl; (intro w' _; go_simp; rfl)) | apply quietO_skip rfl)
  refine hK _ ?_
  clear hK K
  simp only [Act.put, List.setIfInBounds_toArray, List.set_cons_zero, List.set_cons_succ]
  refine wpS_fs rfl (rfl) fun K hK => ?_
  simp only [List.map_cons, List.map_nil, Option.getD_some, List.getElem?_toArray, List.getElem?_cons_zero, List.getElem?_cons_succ]
  iterate 1 (first | (apply quietO_cons _ rfl; (intro w' hs; have c_0 := q0 w' hs; go_simp; rfl)) | apply quietO_skip rfl)
  refine hK _ ?_
  clear hK K
  simp only [Act.put, List.setIfInBounds_toArray, List.set_cons_zero, List.set_cons_succ]
  refine wpS_ps rfl fun K hK => ?_
  simp only [List.map_cons, List.map_nil, Option.getD_some, List.getElem?_toArray, List.getElem?_cons_zero, List.getElem?_cons_succ]
  iterate 2 (first | (apply quietO_cons _ rfl; (intro w' _; go_simp; rfl)) | apply quietO_skip rfl)
  refine hK _ ?_
  clear hK K
  simp only [Act.put, List.setIfInBounds_toArray, List.set_cons_zero, List.set_cons_succ]
  refine wpS_nil ?_
  go_wp2_with fail
  go_ret2
  exact ⟨rfl, (Keeps.refl nowhere w).drew⟩
theorem darm_any (n : Int) (v : Value) (g : Option Nat) (keep : List Bool) (h : DAt w d b kv kp ks vs D) (hr : recBo.Rd w v g keep) (hl : keep.length ≤ 100000000) :
    Calls Try.prog 22 #[.pointer (some ⟨d, 0, none⟩), .int .i64 n, v] w (RetD (.tuple #[]) w d b kv ks vs ⟨D.size, D.kept, D.pend, D.off, true, max n 1, keep, D.writes⟩) := by
  have hc := clBo_any v g keep w hr hl
  have H := Lib.hid h
  have Hc := Lib.hid hc
  have Hr := Lib.hid hr
  clear h hc hr
  go_enter Try.func22, Try.ntmps22
  go_wp2_with fail
  refine Hc.out.mono ?_
  rintro e w1 ⟨v', rfl, hrow, hab, hk1⟩
  obtain ⟨A', c', rfl, -⟩ := hrow.form
  have h1 := H.out.same hk1
  have c4 := h1.cell 4
  have c5 := h1.cell 5
  have c6 := h1.cell 6
  have f4 := h1.box.frozen 4
  have f5 := h1.box.frozen 5
  have f6 := h1.box.frozen 6
  simp at c4 c5 c6
  obtain ⟨w2, hw2⟩ : ∃ w2, w2 = ((w1.setCell ⟨d, 4, none⟩ (.bool true)).setCell ⟨d, 5, none⟩ (.int .i64 (max n 1))).setCell ⟨d, 6, none⟩ (.slice A' keep.length c') := ⟨_, rfl⟩
  have hk2 : Keeps (only d) w1 w2 := by rw [hw2]; exact (((Keeps.refl (only d) w1).setCell (p := ⟨d, 4, none⟩) (fun _ => rfl) _).setCell (p := ⟨d, 5, none⟩) (fun _ => rfl) _).setCell (p := ⟨d, 6, none⟩) (fun _ => rfl) _
  have hb2 := ((h1.box.set_ 4 (.bool true)).set_ 5 (.int .i64 (max n 1))).set_ 6 (.slice A' keep.length c')
  rw [← hw2] at hb2
  have hrow2 := hrow.keep hk2 (fun b e hs => by have e2 : b = d := hs; subst e2; have := hab _ e; have := H.out.box.lt; omega)
  have hd := h1.turn hk2 (off := D.off) (armed := true) (left := max n 1) (kp' := .slice A' keep.length c') (keep := keep) (writes := D.writes) (by simpa using hb2) hrow2
  have hk3 : Keeps (only d) w w2 := (hk1.mono (fun _ _ h => h.elim)).trans hk2 (fun _ _ h => h)
  clear h1 hrow hab hk1 hb2 hrow2 hk2
  have Hd := Lib.hid hd
  have Hk3 := Lib.hid hk3
  have Hw2 := Lib.hid hw2
  clear hd hk3 hw2
  go_wp2_with fail
  rw [← Hw2.out]
  go_end0
  exact ⟨rfl, ⟨_, Hd.out⟩, Hk3.out⟩
end
end Go.Proofs.Ytnddaildicmneaa
