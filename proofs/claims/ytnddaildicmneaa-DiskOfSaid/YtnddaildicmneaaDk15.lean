/-
  disk: Twin.
-/
import Derived.Test.YtnddaildicmneaaDk14
import Derived.Test.YtnddaildicmneaaLayC
namespace Go.Proofs.Ytnddaildicmneaa
open Go.Proofs Go.RowKit Go.Sort Go.Maps

/-- maps.Clone of a map whose entries are known -/
theorem mclone_any {ms : List ((Int × Int) × Value)} (w : World) (b : Nat) (h : KMap keyP w b ms) :
    Calls Try.prog 62 #[.map (some b)] w fun e w' => e = .returned (.map (some w.heap.size)) ∧ KMap keyP w' w.heap.size ms ∧ Keeps nowhere w w' := by
  obtain ⟨Dd, ⟨es, clock, hb, F, hn, hD⟩, h2⟩ := h.own
  refine (AnyW.maps_Clone { cloneP with } b es clock w hb).mono fun e w' ⟨he, hw⟩ => ?_
  subst hw
  exact ⟨he, ⟨⟨Dd, ⟨es, clock, (MapKept.heap_alloc w _).1, F, hn, hD⟩, h2⟩, h.ok, h.nd⟩, (Keeps.refl nowhere w).alloc _⟩
section
variable {w : World} {d b : Nat} {kv kp : Value} {ks : List SlV} {vs : List Value} {D : DiskV}
set_option maxRecDepth 20000 in
set_option maxHeartbeats 4000000 in
theorem dtwin_any (h : DAt w d b kv kp ks vs D) (hkb : D.kept.length ≤ 100000000) (hpb : D.keep.length ≤ 100000000) :
    Calls Try.prog 33 #[.pointer (some ⟨d, 0, none⟩)] w fun e w' => ∃ r, e = .returned r ∧ NewD w D r w' := by
  obtain ⟨A, c, hkv, -⟩ := h.kept.form
  obtain ⟨B, e, hkp, -⟩ := h.keep.form
  have hkl := h.klen
  rw [← hkl] at hkb
  obtain ⟨n, hn⟩ : ∃ n, n = ks.length := ⟨_, rfl⟩
  obtain ⟨m, hm⟩ : ∃ m, m = D.keep.length := ⟨_, rfl⟩
  rw [← hn] at hkv hkb
  rw [← hm] at hkp hpb
  subst hkv hkp
  obtain ⟨t, ht⟩ : ∃ t, t = w.heap.size := ⟨_, rfl⟩
  obtain ⟨w1, hw1⟩ : ∃ w1, w1 = w.alloc (.cells #[.int .i64 D.size, .slice A n c, .map (some b), .bool D.off, .bool D.armed, .int .i64 D.left, .slice B m e, .int .i64 D.writes] 97) := ⟨_, rfl⟩
  have hk1 : Keeps nowhere w w1 := by rw [hw1]; exact (Keeps.refl nowhere w).alloc _
  have h1 := h.same hk1
  have hbx1 : Blk w1 t 97 #[.int .i64 D.size, .slice A n c, .map (some b), .bool D.off, .bool D.armed, .int .i64 D.left, .slice B m e, .int .i64 D.writes] := by rw [hw1, ht]; exact Blk.new _ _ _
  have hc1 := clS_any (.slice A n c) _ ks w1 h1.kept.rd (by rw [← hn]; exact hkb)
  have c0 := h.cell 0
  have c1 := h.cell 1
  have c2 := h.cell 2
  have c3 := h.cell 3
  have c4 := h.cell 4
  have c5 := h.cell 5
  have c6 := h.cell 6
  have c7 := h.cell 7
  have z1 := h1.cell 1
  simp at c0 c1 c2 c3 c4 c5 c6 c7 z1
  have H := Lib.hid h
  have Hk1 := Lib.hid hk1
  have H1 := Lib.hid h1
  have Hbx1 := Lib.hid hbx1
  have Hc1 := Lib.hid hc1
  have Hw1 := Lib.hid hw1
  have Ht := Lib.hid ht
  have Hn := Lib.hid hn
  have Hm := Lib.hid hm
  have Hkl := Lib.hid hkl
  clear h hk1 h1 hbx1 hc1 hw1 ht hn hm hkl
  go_enter Try.func33, Try.ntmps33
  go_upto_region 2 with fail
  rw [← Hw1.out]
  simp only [← Ht.out]
  go_wp2_with fail
  refine Hc1.out.mono ?_
  rintro e2 w2 ⟨v2, rfl, hrow2, hab2, hk2⟩
  have hbx2 := Hbx1.out.keep hk2 (fun h => h)
  have x1 := hbx2.cell 1
  have f1 := hbx2.frozen 1
  simp at x1
  obtain ⟨w3, hw3⟩ : ∃ w3, w3 = w2.setCell ⟨t, 1, none⟩ v2 := ⟨_, rfl⟩
  have hbx3 := hbx2.set_ 1 v2
  have hkt3 : Keeps (only t) w2 w3 := by rw [hw3]; exact (Keeps.refl (only t) w2).setCell (p := ⟨t, 1, none⟩) (fun _ => rfl) _
  have hk3 : Keeps nowhere w w3 := (Hk1.out.more hk2).trans hkt3 (fun k hk e => by have e2 : k = t := e; have := Ht.out; omega)
  rw [← hw3] at hbx3
  have hrow3 := hrow2.keep hkt3 (fun bb e hs => by have e2 : bb = t := hs; subst e2; exact own_blk_ne hrow2 hbx2 (by decide) e)
  have h3 := H.out.same hk3
  have hab3 : ∀ k, v2.ownBlock = some k → w.heap.size ≤ k := fun k e => Nat.le_trans Hk1.out.size (hab2 k e)
  have hcl3 := mclone_any w3 b h3.map
  have y2 := h3.cell 2
  simp at y2
  obtain ⟨A2, c2', hv2, -⟩ := hrow2.form
  rw [← Hn.out] at hv2
  subst hv2
  clear hbx2 hrow2 hab2 hk2 hkt3
  have Hw3 := Lib.hid hw3
  have Hbx3 := Lib.hid hbx3
  have Hk3 := Lib.hid hk3
  have Hrow3 := Lib.hid hrow3
  have H3 := Lib.hid h3
  have Hab3 := Lib.hid hab3
  have Hcl3 := Lib.hid hcl3
  clear hw3 hbx3 hk3 hrow3 h3 hab3 hcl3
  go_upto_region 3 with fail
  rw [← Hw3.out]
  go_wp2_with fail
  refine Hcl3.out.mono ?_
  rintro e2 w4 ⟨rfl, hm4, hk4⟩
  obtain ⟨b4, hb4⟩ : ∃ b4, b4 = w3.heap.size := ⟨_, rfl⟩
  rw [← hb4] at hm4
  simp only [← hb4]
  have hbx4 := Hbx3.out.keep hk4 (fun h => h)
  have x2 := hbx4.cell 2
  have f2 := hbx4.frozen 2
  simp at x2
  obtain ⟨w5, hw5⟩ : ∃ w5, w5 = w4.setCell ⟨t, 2, none⟩ (.map (some b4)) := ⟨_, rfl⟩
  have hbx5 := hbx4.set_ 2 (.map (some b4))
  have hkt5 : Keeps (only t) w4 w5 := by rw [hw5]; exact (Keeps.refl (only t) w4).setCell (p := ⟨t, 2, none⟩) (fun _ => rfl) _
  have hk5 : Keeps nowhere w w5 := (Hk3.out.more hk4).trans hkt5 (fun k hk e => by have e2 : k = t := e; have := Ht.out; omega)
  rw [← hw5] at hbx5
  have hrow5 := (Hrow3.out.same hk4).keep hkt5 (fun bb e hs => by have e2 : bb = t := hs; subst e2; exact own_blk_ne (Hrow3.out.same hk4) hbx4 (by decide) e)
  have hm5 := hm4.keep hkt5 (fun e => hm4.ne_blk hbx4 e.symm)
  have h5 := H.out.same hk5
  have hbl5 : w.heap.size ≤ b4 := by rw [hb4]; exact Hk3.out.size
  have hc5 := clBo_any (.slice B m e) _ D.keep w5 h5.keep.rd (by rw [← Hm.out]; exact hpb)
  have y6 := h5.cell 6
  simp at y6
  clear hbx4 hm4 hk4 hkt5 y2 hb4
  have Hw5 := Lib.hid hw5
  have Hbx5 := Lib.hid hbx5
  have Hk5 := Lib.hid hk5
  have Hrow5 := Lib.hid hrow5
  have Hm5 := Lib.hid hm5
  have H5 := Lib.hid h5
  have Hbl5 := Lib.hid hbl5
  have Hc5 := Lib.hid hc5
  clear hw5 hbx5 hk5 hrow5 hm5 h5 hbl5 hc5
  go_upto_region 4 with fail
  rw [← Hw5.out]
  go_wp2_with fail
  refine Hc5.out.mono ?_
  rintro e2 w6 ⟨v6, rfl, hrow6, hab6, hk6⟩
  have hbx6 := Hbx5.out.keep hk6 (fun h => h)
  have x6 := hbx6.cell 6
  have f6 := hbx6.frozen 6
  simp at x6
  obtain ⟨w7, hw7⟩ : ∃ w7, w7 = w6.setCell ⟨t, 6, none⟩ v6 := ⟨_, rfl⟩
  have hbx7 := hbx6.set_ 6 v6
  have hkt7 : Keeps (only t) w6 w7 := by rw [hw7]; exact (Keeps.refl (only t) w6).setCell (p := ⟨t, 6, none⟩) (fun _ => rfl) _
  have hk7 : Keeps nowhere w w7 := (Hk5.out.more hk6).trans hkt7 (fun k hk e => by have e2 : k = t := e; have := Ht.out; omega)
  rw [← hw7] at hbx7
  have hrow7 := (Hrow5.out.same hk6).keep hkt7 (fun bb e hs => by have e2 : bb = t := hs; subst e2; exact own_blk_ne (Hrow5.out.same hk6) hbx6 (by decide) e)
  have hm7 := (Hm5.out.same hk6).keep hkt7 (fun e => (Hm5.out.same hk6).ne_blk hbx6 e.symm)
  have hp7 := hrow6.keep hkt7 (fun bb e hs => by have e2 : bb = t := hs; subst e2; exact own_blk_ne hrow6 hbx6 (by decide) e)
  have h7 := H.out.same hk7
  obtain ⟨A6, c6', hv6, -⟩ := hrow6.form
  rw [← Hm.out] at hv6
  subst hv6
  have hD : DAt w7 t b4 (.slice A2 n c2') (.slice A6 m c6') ks vs D :=
  { box := by simpa using hbx7
    kept := hrow7
    klen := h7.klen
    sec := h7.sec
    map := hm7
    vlen := h7.vlen
    pb := h7.pb
    keep := hp7 }
  have hds : ∀ k, DS t b4 (.slice A2 n c2') k → w.heap.size ≤ k := by
    rintro k (e | e | e)
    · have := Ht.out; omega
    · have := Hbl5.out; omega
    · exact Hab3.out k e
  clear hbx6 hk6 hkt7 hbx7 hrow7 hm7 hp7 h7 hrow6 y6
  have Hw7 := Lib.hid hw7
  have Hk7 := Lib.hid hk7
  have HD := Lib.hid hD
  have Hds := Lib.hid hds
  clear hw7 hk7 hD hds
  go_wp2_with fail
  rw [← Hw7.out]
  go_ret
  exact ⟨_, rfl, t, b4, _, _, ks, vs, rfl, HD.out, Hds.out, Hk7.out⟩
end
end Go.Proofs.Ytnddaildicmneaa
