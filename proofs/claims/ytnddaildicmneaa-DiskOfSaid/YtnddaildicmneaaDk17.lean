/-
  disk: what is known.
-/
import Derived.Test.YtnddaildicmneaaDk16
namespace Go.Proofs.Ytnddaildicmneaa
open Go.Proofs Go.RowKit Go.Sort Go.Maps

section
variable {w0 w w' : World} {d : Nat} {F : Nat → Prop} {D D' : DiskV}
/-- the footprint behind a call -/
def Grew (w : World) (F F' : Nat → Prop) : Prop := ∀ k, F' k → F k ∨ w.heap.size ≤ k
theorem own_write (s : Int) (v : Value) (L : List UInt8) (o : DOwn w0 w d F D) (ok : DOk D) (hr : recB.Row w v L) :
    Calls Try.prog 23 #[dp d, .int .i64 s, v] w fun e w' => e = .returned (.int .i64 (D.write s L).1) ∧ ∃ F', DOwn w0 w' d F' (D.write s L).2 ∧ recB.Row w' v L ∧ Keeps F w w' ∧ Grew w F F' := by
  have hraw : ∀ k, v.ownBlock = some k → ¬ F k := fun k e hF => row_raw hr (.inl rfl) (o.k.notRaw k hF) e
  refine (dk_write s v _ L o.k ok hr.rd hraw).mono fun e w' ⟨he, hg⟩ => ?_
  obtain ⟨F', h1, h2, h3⟩ := o.go hg
  exact ⟨he, F', h1, hr.keep h2 hraw, h2, h3⟩
theorem own_cut (v : Value) (g : Option Nat) (keep : List Bool) (o : DOwn w0 w d F D) (ok : DOk D) (hr : recBo.Rd w v g keep) (hg : ∀ k, g = some k → ¬ F k) :
    Calls Try.prog 27 #[dp d, v] w fun e w' => e = .returned (.tuple #[]) ∧ ∃ F', DOwn w0 w' d F' (D.cut keep) ∧ Keeps F w w' ∧ Grew w F F' :=
  (dk_cut v g keep o.k ok hr hg).mono fun e w' ⟨he, hh⟩ => ⟨he, o.go hh⟩
theorem own_on (o : DOwn w0 w d F D) : Calls Try.prog 28 #[dp d] w fun e w' => e = .returned (.tuple #[]) ∧ ∃ F', DOwn w0 w' d F' D.on ∧ Keeps F w w' ∧ Grew w F F' :=
  (dk_on o.k).mono fun e w' ⟨he, hh⟩ => ⟨he, o.go hh⟩
theorem own_sync (o : DOwn w0 w d F D) (ok : DOk D) : Calls Try.prog 26 #[dp d] w fun e w' => e = .returned (.int .i64 D.syncs.1) ∧ ∃ F', DOwn w0 w' d F' D.syncs.2 ∧ Keeps F w w' ∧ Grew w F F' :=
  (dk_sync o.k ok).mono fun e w' ⟨he, hh⟩ => ⟨he, o.go hh⟩
theorem own_arm (n : Int) (v : Value) (g : Option Nat) (keep : List Bool) (o : DOwn w0 w d F D) (hr : recBo.Rd w v g keep) (hl : keep.length ≤ 100000000) :
    Calls Try.prog 22 #[dp d, .int .i64 n, v] w fun e w' => e = .returned (.tuple #[]) ∧ ∃ F', DOwn w0 w' d F' (D.arm n keep) ∧ Keeps F w w' ∧ Grew w F F' :=
  (dk_arm n v g keep o.k hr hl).mono fun e w' ⟨he, hh⟩ => ⟨he, o.go hh⟩
theorem own_read (s : Int) (o : DOwn w0 w d F D) (ok : DOk D) : Calls Try.prog 29 #[dp d, .int .i64 s] w fun e w' => ∃ A c g, e = .returned (.tuple #[.slice A (D.readL s).length c, .int .i64 (D.readE s)]) ∧ recB.Rd w' (.slice A (D.readL s).length c) g (D.readL s) ∧ Above w.heap.size g ∧ DOwn w0 w' d F D ∧ Keeps nowhere w w' :=
  (dk_read s o.k ok).mono fun e w' ⟨v, g, he, hr, ha, hk⟩ => by
    obtain ⟨A, c, rfl, -⟩ := id hr
    exact ⟨A, c, g, he, hr, ha, o.same hk, hk⟩
theorem own_shape (o : DOwn w0 w d F D) : Calls Try.prog 36 #[dp d] w fun e w' => e = .returned (.tuple #[.int .i64 D.kept.length, .int .i64 D.size]) ∧ DOwn w0 w' d F D ∧ Keeps nowhere w w' :=
  (dk_shape o.k).mono fun e w' ⟨he, hk⟩ => ⟨he, o.same hk, hk⟩
theorem own_bytes (o : DOwn w0 w d F D) (ok : DOk D) (hp : 0 < D.kept.length) : Calls Try.prog 37 #[dp d] w fun e w' => ∃ A c g, e = .returned (.slice A D.kept.flatten.length c) ∧ recB.Rd w' (.slice A D.kept.flatten.length c) g D.kept.flatten ∧ Above w.heap.size g ∧ DOwn w0 w' d F D ∧ Keeps nowhere w w' :=
  (dk_bytes o.k ok hp).mono fun e w' ⟨v, g, he, hr, ha, hk⟩ => by
    obtain ⟨A, c, rfl, -⟩ := id hr
    exact ⟨A, c, g, he, hr, ha, o.same hk, hk⟩
theorem own_new (n size : Nat) (hk : Keeps nowhere w0 w) (h1 : 1 ≤ n) (h2 : n ≤ 16384) (h3 : 64 ≤ size) (h4 : size ≤ 1024) :
    Calls Try.prog 21 #[.int .i64 n, .int .i64 size] w fun e w' => ∃ t F', e = .returned (.tuple #[dp t, .int .i64 0]) ∧ DOwn w0 w' t F' (freshD n size) ∧ (∀ k, F' k → w.heap.size ≤ k) ∧ Keeps nowhere w w' :=
  (dk_new n size w h1 h2 h3 h4).mono fun e w' ⟨t, F', he, h, hF, hk'⟩ => ⟨t, F', he, ⟨h, fun k hk2 => Nat.le_trans hk.size (hF k hk2), hk.more hk'⟩, hF, hk'⟩
end
/-- one byte of a row is set -/
theorem row_set {w : World} {q n c : Nat} {L : List UInt8} (h : recB.Row w (.slice (some ⟨q, 0, none⟩) n c) L) {i : Nat} (hi : i < n) (x : UInt8) :
    (∃ u, w.cell? ⟨q, i, none⟩ = some u) ∧ w.frozen? ⟨q, i, none⟩ = false ∧ recB.Row (w.setCell ⟨q, i, none⟩ (bv x)) (.slice (some ⟨q, 0, none⟩) n c) (L.set i x) ∧ Keeps (only q) w (w.setCell ⟨q, i, none⟩ (bv x)) := by
  obtain ⟨A, c', hv, -⟩ := h.form
  injection hv with _ hn _
  subst hn
  obtain ⟨h1, h2, h3⟩ := h.store hi x
  obtain ⟨h4, h5⟩ := h1 0 (by decide)
  have ew : w.setCells q (i * recB.n) (recB.cs x) = w.setCell ⟨q, i, none⟩ (bv x) := by show w.setCell ⟨q, i * 1, none⟩ _ = _; rw [Nat.mul_one]
  rw [ew] at h2 h3
  rw [Nat.add_zero, show i * recB.n = i from Nat.mul_one i] at h4 h5
  exact ⟨h4, h5, h2, h3⟩
def YesD (w : World) : Ending → World → Prop := fun e w' => e = .returned (.bool true) ∧ Keeps nowhere w w'
theorem rdB_at {w : World} {v : Value} {g : Option Nat} {L : List UInt8} (h : recB.Rd w v g L) (hp : 0 < L.length) : ∃ b o c, v = .slice (some ⟨b, o, none⟩) L.length c ∧ g = some b ∧ ∀ i x, L[i]? = some x → w.cell? ⟨b, o + i, none⟩ = some (bv x) := by
  obtain ⟨A, c, rfl, -, -, -, h3, -⟩ := h
  obtain ⟨b, o, rfl, hg, hc⟩ := h3 hp
  refine ⟨b, o, c, rfl, hg, fun i x hi => ?_⟩
  have := hc i x hi 0 (by decide)
  rw [show i * recB.n = i from Nat.mul_one i] at this
  simpa [recB] using this
def kX : List UInt8 := (zerosB 64).set 0 5
def kD1 : DiskV := ((freshD 4 64).write 1 kX).2
def kD2 : DiskV := (kD1.write 2 kX).2
def kD3 : DiskV := kD2.cut [true]
def kD4 : DiskV := kD3.on
theorem kt : ((freshD 4 64).write 1 kX).1 = 0 ∧ (kD1.write 2 kX).1 = 0 ∧ kD3.readE 1 = 22 ∧ kD3.readL 1 = [] ∧ kD4.readE 1 = 0 ∧ kD4.readL 1 = kX ∧ kD4.readE 2 = 0 ∧ kD4.readL 2 = zerosB 64 ∧ kD4.kept.length = 4 ∧ kD4.size = 64 ∧ kD4.writes = 2 ∧ kD4.kept.flatten.length = 256 := by
  refine ⟨?_, ?_, ?_, ?_, ?_, ?_, ?_, ?_, ?_, ?_, ?_, ?_⟩ <;> kernel_rfl
theorem kok : DOk (freshD 4 64) ∧ DOk kD1 ∧ DOk kD2 ∧ DOk kD3 ∧ DOk kD4 := by
  refine ⟨?_, ?_, ?_, ?_, ?_⟩ <;> exact ⟨by decide, by decide, by decide, by decide, by decide, by decide, by decide⟩
set_option maxRecDepth 20000 in
set_option maxHeartbeats 4000000 in
theorem known7 (w : World) : Calls Try.prog 20 #[] w (YesD w) := by
  obtain ⟨t1, t2, t3, t4, t5, t6, t7, t8, t9, ta, tb, tc⟩ := kt
  obtain ⟨k0, k1, k2, k3, k4⟩ := kok
  have T1 := Lib.hid t1
  have T2 := Lib.hid t2
  have T3 := Lib.hid t3
  have T4 := Lib.hid t4
  have T5 := Lib.hid t5
  have T6 := Lib.hid t6
  have T7 := Lib.hid t7
  have T8 := Lib.hid t8
  have T9 := Lib.hid t9
  have Ta := Lib.hid ta
  have Tb := Lib.hid tb
  have Tc := Lib.hid tc
  have K0 := Lib.hid k0
  have K1 := Lib.hid k1
  have K2 := Lib.hid k2
  have K3 := Lib.hid k3
  have K4 := Lib.hid k4
  clear t1 t2 t3 t4 t5 t6 t7 t8 t9 ta tb tc k0 k1 k2 k3 k4
  go_enter Try.func20, Try.ntmps20
  go_wp2_with fail
  refine (own_new 4 64 (Keeps.refl nowhere w) (by decide) (by decide) (by decide) (by decide)).mono ?_
  rintro e w1 ⟨d, F1, rfl, o1, -, -⟩
  unfold dp
  have O1 := Lib.hid o1
  clear o1
  go_wp2_with (at_make; refine wpList_make_bytesB _ rfl _ _ rfl 64 64 rfl rfl rfl (by omega) ?_)
  intro w2 hx2 hk2
  obtain ⟨q, hq⟩ : ∃ q, q = w1.heap.size := ⟨_, rfl⟩
  rw [← hq] at hx2
  simp only [← hq]
  obtain ⟨⟨u, cu⟩, fu, hx3, hk3⟩ := row_set hx2 (i := 0) (by decide) 5
  obtain ⟨w3, hw3⟩ : ∃ w3, w3 = w2.setCell ⟨q, 0, none⟩ (bv 5) := ⟨_, rfl⟩
  rw [← hw3] at hx3 hk3
  have hk13 : Keeps nowhere w1 w3 := hk2.trans hk3 (fun k hk e => by have e2 : k = q := e; omega)
  have o3 := O1.out.same hk13
  change recB.Row w3 _ kX at hx3
  have hw3' : w3 = w2.setCell ⟨q, 0, none⟩ (.int .u8 5) := hw3
  clear hx2 hk2 hk3 hw3 hk13
  have Hx3 := Lib.hid hx3
  have O3 := Lib.hid o3
  have Hq := Lib.hid hq
  have Hw3' := Lib.hid hw3'
  clear hx3 o3 hq hw3'
  go_upto_region 6 with fail
  rw [← Hw3'.out]
  clear cu fu
  have hc1 := own_write 1 _ kX O3.out K0.out Hx3.out
  unfold dp at hc1
  go_wp2_with fail
  refine (hc1).mono ?_
  rintro e w4 ⟨rfl, F4, o4, hx4, -, -⟩
  rw [T1.out]
  change DOwn w w4 d F4 kD1 at o4
  have O4 := Lib.hid o4
  have Hx4 := Lib.hid hx4
  clear o4 hx4
  have hc2 := own_write 2 _ kX O4.out K1.out Hx4.out
  unfold dp at hc2
  go_wp2_with fail
  refine (hc2).mono ?_
  rintro e w5 ⟨rfl, F5, o5, -, -, -⟩
  rw [T2.out]
  change DOwn w w5 d F5 kD2 at o5
  have O5 := Lib.hid o5
  clear o5
  have hka := (Keeps.refl nowhere w5).alloc (.cells #[.bool true] 4)
  have hrd := RecT.Rd.one recBo w5 true
  have hc3 := own_cut _ _ [true] (O5.out.same hka) K2.out hrd (fun k e hF => by injection e with e; have := O5.out.k.lt k hF; omega)
  unfold dp at hc3
  change Calls Try.prog _ _ (w5.alloc (.cells #[.bool true] 4)) _ at hc3
  clear hka hrd
  have Hc3 := Lib.hid hc3
  clear hc3
  go_wp2_with fail
  refine (Hc3.out).mono ?_
  rintro e w6 ⟨rfl, F6, o6, -, -⟩
  change DOwn w w6 d F6 kD3 at o6
  clear Hc3
  have hc4 := own_read 1 o6 K3.out
  rw [T3.out, T4.out] at hc4
  unfold dp at hc4
  have O6 := Lib.hid o6
  have Hc4 := Lib.hid hc4
  clear o6 hc4
  go_wp2_with fail
  refine (Hc4.out).mono ?_
  rintro e w7 ⟨A7, c7, g7, rfl, -, -, o7, -⟩
  clear Hc4
  have hc5 := own_on o7
  unfold dp at hc5
  have O7 := Lib.hid o7
  have Hc5 := Lib.hid hc5
  clear o7 hc5
  go_wp2_with fail
  refine (Hc5.out).mono ?_
  rintro e w8 ⟨rfl, F8, o8, -, -⟩
  change DOwn w w8 d F8 kD4 at o8
  clear Hc5
  have hc6 := own_read 1 o8 K4.out
  rw [T5.out, T6.out] at hc6
  unfold dp at hc6
  have O8 := Lib.hid o8
  have Hc6 := Lib.hid hc6
  clear o8 hc6
  go_wp2_with fail
  refine (Hc6.out).mono ?_
  rintro e w9 ⟨A9, c9, g9, rfl, hr9, -, o9, -⟩
  clear Hc6
  have hc7 := own_read 2 o9 K4.out
  rw [T7.out, T8.out] at hc7
  unfold dp at hc7
  have O9 := Lib.hid o9
  have Hc7 := Lib.hid hc7
  have Hr9 := Lib.hid hr9
  clear o9 hc7 hr9
  go_wp2_with fail
  refine (Hc7.out).mono ?_
  rintro e wa ⟨Aa, ca, ga, rfl, hra, -, oa, hka⟩
  clear Hc7
  have hr9a := Hr9.out.same hka
  have hc8 := own_shape oa
  rw [T9.out, Ta.out] at hc8
  unfold dp at hc8
  have Oa := Lib.hid oa
  have Hc8 := Lib.hid hc8
  have Hra := Lib.hid hra
  have Hr9a := Lib.hid hr9a
  clear oa hc8 hra hr9a
  go_wp2_with fail
  refine (Hc8.out).mono ?_
  rintro e wb ⟨rfl, ob, hkb⟩
  clear Hc8
  obtain ⟨b9, f9, c9', hv9, -, hx9⟩ := rdB_at (Hr9a.out.same hkb) (by decide)
  obtain ⟨ba, fa, ca', hva, -, hxa⟩ := rdB_at (Hra.out.same hkb) (by decide)
  injection hv9 with hA9 _ hc9
  injection hva with hAa _ hca
  subst hA9 hc9 hAa hca
  have x9 := hx9 0 5 rfl
  have xa := hxa 0 0 rfl
  simp [bv] at x9 xa
  have hw := dk_writes ob.k
  rw [Tb.out] at hw
  unfold dp at hw
  have hby := own_bytes ob K4.out (by rw [T9.out]; decide)
  unfold dp at hby
  rw [Tc.out] at hby
  clear hx9 hxa
  simp only [show kX.length = 64 from rfl, show (zerosB 64).length = 64 from rfl, List.length_nil]
  have Ob := Lib.hid ob
  have Hw := Lib.hid hw
  have Hby := Lib.hid hby
  clear ob hw hby
  go_wp2_with fail
  refine (Hw.out).mono ?_
  rintro e wc ⟨rfl, rfl⟩
  go_wp2_with fail
  refine (Hby.out).mono ?_
  rintro e wd ⟨Ad, cd, gd, rfl, -, -, od, -⟩
  go_wp2_with fail
  go_ret
  exact ⟨rfl, od.kp⟩
end Go.Proofs.Ytnddaildicmneaa
