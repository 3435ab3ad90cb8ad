/-
  Parts of the proof, joined in build order: Dk17, PgT, PgK.
-/
import Derived.Test.YtnddaildicmneaaMp5
set_option linter.unusedVariables false
set_option linter.unusedSimpArgs false
/-
  disk: what is known.
-/
namespace Go.Proofs.Ytnddaildicmneaa
open Go.Proofs Go.RowKit Go.Sort Go.Maps

section
variable {w0 w w' : World} {d : Nat} {F : Nat → Prop} {D D' : DiskV}
/-- the footprint behind a call -/
def Grew (w : World) (F F' : Nat → Prop) : Prop := ∀ k, F' k → F k ∨ w.heap.size ≤ k
theorem own_write (s : Int) (v : Value) (L : List UInt8) (o : DOwn w0 w d F D) (ok : DOk D) (hr : recB.Row w v L) :
    Calls Try.prog 23 #[dp d, .int .i64 s, v] w fun e w' => e = .returned (.int .i64 (D.write s L).1) ∧ ∃ F', DOwn w0 w' d F' (D.write s L).2 ∧ recB.Row w' v L ∧ Keeps F w w' ∧ Grew w F F' := by
  have hraw : ∀ k, v.ownBlock = some k → ¬ F k := fun k e hF => row_raw hr (.inl rfl) (o.k.notRaw k hF) e
  refine (dk_write s v _ L o.k ok hr.rd hraw).mono fun e w' ⟨he, hg⟩ => ?_
  obtain ⟨F', h1, h2, h3⟩ := o.go hg
  exact ⟨he, F', h1, hr.keep h2 hraw, h2, h3⟩
theorem own_cut (v : Value) (g : Option Nat) (keep : List Bool) (o : DOwn w0 w d F D) (ok : DOk D) (hr : recBo.Rd w v g keep) (hg : ∀ k, g = some k → ¬ F k) :
    Calls Try.prog 27 #[dp d, v] w fun e w' => e = .returned (.tuple #[]) ∧ ∃ F', DOwn w0 w' d F' (D.cut keep) ∧ Keeps F w w' ∧ Grew w F F' :=
  (dk_cut v g keep o.k ok hr hg).mono fun e w' ⟨he, hh⟩ => ⟨he, o.go hh⟩
theorem own_on (o : DOwn w0 w d F D) : Calls Try.prog 28 #[dp d] w fun e w' => e = .returned (.tuple #[]) ∧ ∃ F', DOwn w0 w' d F' D.on ∧ Keeps F w w' ∧ Grew w F F' :=
  (dk_on o.k).mono fun e w' ⟨he, hh⟩ => ⟨he, o.go hh⟩
theorem own_sync (o : DOwn w0 w d F D) (ok : DOk D) : Calls Try.prog 26 #[dp d] w fun e w' => e = .returned (.int .i64 D.syncs.1) ∧ ∃ F', DOwn w0 w' d F' D.syncs.2 ∧ Keeps F w w' ∧ Grew w F F' :=
  (dk_sync o.k ok).mono fun e w' ⟨he, hh⟩ => ⟨he, o.go hh⟩
theorem own_arm (n : Int) (v : Value) (g : Option Nat) (keep : List Bool) (o : DOwn w0 w d F D) (hr : recBo.Rd w v g keep) (hl : keep.length ≤ 100000000) :
    Calls Try.prog 22 #[dp d, .int .i64 n, v] w fun e w' => e = .returned (.tuple #[]) ∧ ∃ F', DOwn w0 w' d F' (D.arm n keep) ∧ Keeps F w w' ∧ Grew w F F' :=
  (dk_arm n v g keep o.k hr hl).mono fun e w' ⟨he, hh⟩ => ⟨he, o.go hh⟩
theorem own_read (s : Int) (o : DOwn w0 w d F D) (ok : DOk D) : Calls Try.prog 29 #[dp d, .int .i64 s] w fun e w' => ∃ A c g, e = .returned (.tuple #[.slice A (D.readL s).length c, .int .i64 (D.readE s)]) ∧ recB.Rd w' (.slice A (D.readL s).length c) g (D.readL s) ∧ Above w.heap.size g ∧ DOwn w0 w' d F D ∧ Keeps nowhere w w' :=
  (dk_read s o.k ok).mono fun e w' ⟨v, g, he, hr, ha, hk⟩ => by
    obtain ⟨A, c, rfl, -⟩ := id hr
    exact ⟨A, c, g, he, hr, ha, o.same hk, hk⟩
theorem own_shape (o : DOwn w0 w d F D) : Calls Try.prog 36 #[dp d] w fun e w' => e = .returned (.tuple #[.int .i64 D.kept.length, .int .i64 D.size]) ∧ DOwn w0 w' d F D ∧ Keeps nowhere w w' :=
  (dk_shape o.k).mono fun e w' ⟨he, hk⟩ => ⟨he, o.same hk, hk⟩
theorem own_bytes (o : DOwn w0 w d F D) (ok : DOk D) (hp : 0 < D.kept.length) : Calls Try.prog 37 #[dp d] w fun e w' => ∃ A c g, e = .returned (.slice A D.kept.flatten.length c) ∧ recB.Rd w' (.slice A D.kept.flatten.length c) g D.kept.flatten ∧ Above w.heap.size g ∧ DOwn w0 w' d F D ∧ Keeps nowhere w w' :=
  (dk_bytes o.k ok hp).mono fun e w' ⟨v, g, he, hr, ha, hk⟩ => by
    obtain ⟨A, c, rfl, -⟩ := id hr
    exact ⟨A, c, g, he, hr, ha, o.same hk, hk⟩
theorem own_new (n size : Nat) (hk : Keeps nowhere w0 w) (h1 : 1 ≤ n) (h2 : n ≤ 16384) (h3 : 64 ≤ size) (h4 : size ≤ 1024) :
    Calls Try.prog 21 #[.int .i64 n, .int .i64 size] w fun e w' => ∃ t F', e = .returned (.tuple #[dp t, .int .i64 0]) ∧ DOwn w0 w' t F' (freshD n size) ∧ (∀ k, F' k → w.heap.size ≤ k) ∧ Keeps nowhere w w' :=
  (dk_new n size w h1 h2 h3 h4).mono fun e w' ⟨t, F', he, h, hF, hk'⟩ => ⟨t, F', he, ⟨h, fun k hk2 => Nat.le_trans hk.size (hF k hk2), hk.more hk'⟩, hF, hk'⟩
end
/-- one byte of a row is set -/
theorem row_set {w : World} {q n c : Nat} {L : List UInt8} (h : recB.Row w (.slice (some ⟨q, 0, none⟩) n c) L) {i : Nat} (hi : i < n) (x : UInt8) :
    (∃ u, w.cell? ⟨q, i, none⟩ = some u) ∧ w.frozen? ⟨q, i, none⟩ = false ∧ recB.Row (w.setCell ⟨q, i, none⟩ (bv x)) (.slice (some ⟨q, 0, none⟩) n c) (L.set i x) ∧ Keeps (only q) w (w.setCell ⟨q, i, none⟩ (bv x)) := by
  obtain ⟨A, c', hv, -⟩ := h.form
  injection hv with _ hn _
  subst hn
  obtain ⟨h1, h2, h3⟩ := h.store hi x
  obtain ⟨h4, h5⟩ := h1 0 (by decide)
  have ew : w.setCells q (i * recB.n) (recB.cs x) = w.setCell ⟨q, i, none⟩ (bv x) := by show w.setCell ⟨q, i * 1, none⟩ _ = _; rw [Nat.mul_one]
  rw [ew] at h2 h3
  rw [Nat.add_zero, show i * recB.n = i from Nat.mul_one i] at h4 h5
  exact ⟨h4, h5, h2, h3⟩
def YesD (w : World) : Ending → World → Prop := fun e w' => e = .returned (.bool true) ∧ Keeps nowhere w w'
theorem rdB_at {w : World} {v : Value} {g : Option Nat} {L : List UInt8} (h : recB.Rd w v g L) (hp : 0 < L.length) : ∃ b o c, v = .slice (some ⟨b, o, none⟩) L.length c ∧ g = some b ∧ ∀ i x, L[i]? = some x → w.cell? ⟨b, o + i, none⟩ = some (bv x) := by
  obtain ⟨A, c, rfl, -, -, -, h3, -⟩ := h
  obtain ⟨b, o, rfl, hg, hc⟩ := h3 hp
  refine ⟨b, o, c, rfl, hg, fun i x hi => ?_⟩
  have := hc i x hi 0 (by decide)
  rw [show i * recB.n = i from Nat.mul_one i] at this
  simpa [recB] using this
def kX : List UInt8 := (zerosB 64).set 0 5
def kD1 : DiskV := ((freshD 4 64).write 1 kX).2
def kD2 : DiskV := (kD1.write 2 kX).2
def kD3 : DiskV := kD2.cut [true]
def kD4 : DiskV := kD3.on
theorem kt : ((freshD 4 64).write 1 kX).1 = 0 ∧ (kD1.write 2 kX).1 = 0 ∧ kD3.readE 1 = 22 ∧ kD3.readL 1 = [] ∧ kD4.readE 1 = 0 ∧ kD4.readL 1 = kX ∧ kD4.readE 2 = 0 ∧ kD4.readL 2 = zerosB 64 ∧ kD4.kept.length = 4 ∧ kD4.size = 64 ∧ kD4.writes = 2 ∧ kD4.kept.flatten.length = 256 := by
  refine ⟨?_, ?_, ?_, ?_, ?_, ?_, ?_, ?_, ?_, ?_, ?_, ?_⟩ <;> kernel_rfl
theorem kok : DOk (freshD 4 64) ∧ DOk kD1 ∧ DOk kD2 ∧ DOk kD3 ∧ DOk kD4 := by
  refine ⟨?_, ?_, ?_, ?_, ?_⟩ <;> exact ⟨by decide, by decide, by decide, by decide, by decide, by decide, by decide⟩
set_option maxRecDepth 20000 in
set_option maxHeartbeats 4000000 in
theorem known7 (w : World) : Calls Try.prog 20 #[] w (YesD w) := by
  obtain ⟨t1, t2, t3, t4, t5, t6, t7, t8, t9, ta, tb, tc⟩ := kt
  obtain ⟨k0, k1, k2, k3, k4⟩ := kok
  have T1 := Lib.hid t1
  have T2 := Lib.hid t2
  have T3 := Lib.hid t3
  have T4 := Lib.hid t4
  have T5 := Lib.hid t5
  have T6 := Lib.hid t6
  have T7 := Lib.hid t7
  have T8 := Lib.hid t8
  have T9 := Lib.hid t9
  have Ta := Lib.hid ta
  have Tb := Lib.hid tb
  have Tc := Lib.hid tc
  have K0 := Lib.hid k0
  have K1 := Lib.hid k1
  have K2 := Lib.hid k2
  have K3 := Lib.hid k3
  have K4 := Lib.hid k4
  clear t1 t2 t3 t4 t5 t6 t7 t8 t9 ta tb tc k0 k1 k2 k3 k4
  go_enter Try.func20, Try.ntmps20
  go_wp2_with fail
  refine (own_new 4 64 (Keeps.refl nowhere w) (by decide) (by decide) (by decide) (by decide)).mono ?_
  rintro e w1 ⟨d, F1, rfl, o1, -, -⟩
  unfold dp
  have O1 := Lib.hid o1
  clear o1
  go_wp2_with (at_make; refine wpList_make_bytesB _ rfl _ _ rfl 64 64 rfl rfl rfl (by omega) ?_)
  intro w2 hx2 hk2
  obtain ⟨q, hq⟩ : ∃ q, q = w1.heap.size := ⟨_, rfl⟩
  rw [← hq] at hx2
  simp only [← hq]
  obtain ⟨⟨u, cu⟩, fu, hx3, hk3⟩ := row_set hx2 (i := 0) (by decide) 5
  obtain ⟨w3, hw3⟩ : ∃ w3, w3 = w2.setCell ⟨q, 0, none⟩ (bv 5) := ⟨_, rfl⟩
  rw [← hw3] at hx3 hk3
  have hk13 : Keeps nowhere w1 w3 := hk2.trans hk3 (fun k hk e => by have e2 : k = q := e; omega)
  have o3 := O1.out.same hk13
  change recB.Row w3 _ kX at hx3
  have hw3' : w3 = w2.setCell ⟨q, 0, none⟩ (.int .u8 5) := hw3
  clear hx2 hk2 hk3 hw3 hk13
  have Hx3 := Lib.hid hx3
  have O3 := Lib.hid o3
  have Hq := Lib.hid hq
  have Hw3' := Lib.hid hw3'
  clear hx3 o3 hq hw3'
  go_upto_region 6 with fail
  rw [← Hw3'.out]
  clear cu fu
  have hc1 := own_write 1 _ kX O3.out K0.out Hx3.out
  unfold dp at hc1
  go_wp2_with fail
  refine (hc1).mono ?_
  rintro e w4 ⟨rfl, F4, o4, hx4, -, -⟩
  rw [T1.out]
  change DOwn w w4 d F4 kD1 at o4
  have O4 := Lib.hid o4
  have Hx4 := Lib.hid hx4
  clear o4 hx4
  have hc2 := own_write 2 _ kX O4.out K1.out Hx4.out
  unfold dp at hc2
  go_wp2_with fail
  refine (hc2).mono ?_
  rintro e w5 ⟨rfl, F5, o5, -, -, -⟩
  rw [T2.out]
  change DOwn w w5 d F5 kD2 at o5
  have O5 := Lib.hid o5
  clear o5
  have hka := (Keeps.refl nowhere w5).alloc (.cells #[.bool true] 4)
  have hrd := RecT.Rd.one recBo w5 true
  have hc3 := own_cut _ _ [true] (O5.out.same hka) K2.out hrd (fun k e hF => by injection e with e; have := O5.out.k.lt k hF; omega)
  unfold dp at hc3
  change Calls Try.prog _ _ (w5.alloc (.cells #[.bool true] 4)) _ at hc3
  clear hka hrd
  have Hc3 := Lib.hid hc3
  clear hc3
  go_wp2_with fail
  refine (Hc3.out).mono ?_
  rintro e w6 ⟨rfl, F6, o6, -, -⟩
  change DOwn w w6 d F6 kD3 at o6
  clear Hc3
  have hc4 := own_read 1 o6 K3.out
  rw [T3.out, T4.out] at hc4
  unfold dp at hc4
  have O6 := Lib.hid o6
  have Hc4 := Lib.hid hc4
  clear o6 hc4
  go_wp2_with fail
  refine (Hc4.out).mono ?_
  rintro e w7 ⟨A7, c7, g7, rfl, -, -, o7, -⟩
  clear Hc4
  have hc5 := own_on o7
  unfold dp at hc5
  have O7 := Lib.hid o7
  have Hc5 := Lib.hid hc5
  clear o7 hc5
  go_wp2_with fail
  refine (Hc5.out).mono ?_
  rintro e w8 ⟨rfl, F8, o8, -, -⟩
  change DOwn w w8 d F8 kD4 at o8
  clear Hc5
  have hc6 := own_read 1 o8 K4.out
  rw [T5.out, T6.out] at hc6
  unfold dp at hc6
  have O8 := Lib.hid o8
  have Hc6 := Lib.hid hc6
  clear o8 hc6
  go_wp2_with fail
  refine (Hc6.out).mono ?_
  rintro e w9 ⟨A9, c9, g9, rfl, hr9, -, o9, -⟩
  clear Hc6
  have hc7 := own_read 2 o9 K4.out
  rw [T7.out, T8.out] at hc7
  unfold dp at hc7
  have O9 := Lib.hid o9
  have Hc7 := Lib.hid hc7
  have Hr9 := Lib.hid hr9
  clear o9 hc7 hr9
  go_wp2_with fail
  refine (Hc7.out).mono ?_
  rintro e wa ⟨Aa, ca, ga, rfl, hra, -, oa, hka⟩
  clear Hc7
  have hr9a := Hr9.out.same hka
  have hc8 := own_shape oa
  rw [T9.out, Ta.out] at hc8
  unfold dp at hc8
  have Oa := Lib.hid oa
  have Hc8 := Lib.hid hc8
  have Hra := Lib.hid hra
  have Hr9a := Lib.hid hr9a
  clear oa hc8 hra hr9a
  go_wp2_with fail
  refine (Hc8.out).mono ?_
  rintro e wb ⟨rfl, ob, hkb⟩
  clear Hc8
  obtain ⟨b9, f9, c9', hv9, -, hx9⟩ := rdB_at (Hr9a.out.same hkb) (by decide)
  obtain ⟨ba, fa, ca', hva, -, hxa⟩ := rdB_at (Hra.out.same hkb) (by decide)
  injection hv9 with hA9 _ hc9
  injection hva with hAa _ hca
  subst hA9 hc9 hAa hca
  have x9 := hx9 0 5 rfl
  have xa := hxa 0 0 rfl
  simp [bv] at x9 xa
  have hw := dk_writes ob.k
  rw [Tb.out] at hw
  unfold dp at hw
  have hby := own_bytes ob K4.out (by rw [T9.out]; decide)
  unfold dp at hby
  rw [Tc.out] at hby
  clear hx9 hxa
  simp only [show kX.length = 64 from rfl, show (zerosB 64).length = 64 from rfl, List.length_nil]
  have Ob := Lib.hid ob
  have Hw := Lib.hid hw
  have Hby := Lib.hid hby
  clear ob hw hby
  go_wp2_with fail
  refine (Hw.out).mono ?_
  rintro e wc ⟨rfl, rfl⟩
  go_wp2_with fail
  refine (Hby.out).mono ?_
  rintro e wd ⟨Ad, cd, gd, rfl, -, -, od, -⟩
  go_wp2_with fail
  go_ret
  exact ⟨rfl, od.kp⟩
end Go.Proofs.Ytnddaildicmneaa
/-
  pages: a book on a disk of the call's own: what each method makes of both.
-/
namespace Go.Proofs.Ytnddaildicmneaa
open Go.Proofs Go.RowKit Go.Sort Go.Maps

theorem nodup_lt : ∀ (n : Nat) (l : List Nat), l.Nodup → (∀ x ∈ l, x < n) → l.length ≤ n
  | 0, l, _, h => by
    cases l with
    | nil => exact Nat.le_refl _
    | cons x l => exact absurd (h x (by simp)) (by omega)
  | n + 1, l, hn, h => by
    by_cases hm : n ∈ l
    · have h1 := nodup_lt n (l.erase n) (hn.erase n) (fun x hx => by
        have h2 := (hn.mem_erase_iff).1 hx
        have := h x h2.2
        have h3 := h2.1
        omega)
      rw [List.length_erase_of_mem hm] at h1
      omega
    · have h1 := nodup_lt n l hn (fun x hx => by
        have := h x hx
        have : x ≠ n := fun e => hm (e ▸ hx)
        omega)
      omega
theorem ChOk.le {B : BookV} (h : ChOk B) : B.changed.length ≤ B.pages := by
  have := nodup_lt B.pages (B.changed.map (·.1)) h.nd (fun x hx => by
    obtain ⟨y, hy, rfl⟩ := List.mem_map.1 hx
    exact h.rng y hy)
  simpa using this
/-- the plain side: `W`: the most writes so far, `G`: the most generations -/
structure PV (N W G : Nat) (D : DiskV) (B : BookV) (vals : List (List UInt8)) : Prop where
  lies : Lies D.kept B vals
  pend : D.pend = []
  size : D.size = 64
  bsz : B.size = 64
  klen : D.kept.length = N
  wr : D.writes ≤ W
  keep : D.keep.length ≤ 1000000
  arm : D.armed = true → 1 ≤ D.left ∧ D.left ≤ 9223372036854775807
  gen : B.gen ≤ G
  ch : ChOk B
  out : ∀ x, x < N → (x < B.a ∨ B.a + B.n ≤ x) → D.kept[x]? = some (zerosB 64)
section
variable {N W G : Nat} {D : DiskV} {B : BookV} {vals : List (List UInt8)}
theorem PV.ok (h : PV N W G D B vals) (hN : N ≤ 100000) (hG : G < 1000000) : BOk B := by
  have h1 := h.lies.f.rng
  have h2 := h.lies.f.f
  rw [h.klen] at h1
  exact ⟨by rw [h.bsz]; omega, by rw [h.bsz]; omega, by omega, h2.2.1, by have := h.gen; omega⟩
theorem PV.lok (h : PV N W G D B vals) (hN : N ≤ 100000) (hW : W < 1000000) : LOk D 8000 := by
  have hk := h.klen
  have hz := h.size
  exact ⟨by rw [h.pend]; simp, by omega, by omega, by rw [hz, hk]; omega, by have := h.wr; omega, h.arm, by have := h.keep; omega⟩
theorem PV.works (h : PV N W G D B vals) (ho : D.off = false) : Works D := ⟨ho, h.arm⟩
theorem PV.pages (h : PV N W G D B vals) : 1 ≤ B.pages ∧ B.pages ≤ 1024 := ⟨h.lies.f.f.1, h.lies.f.f.2.1⟩
/-- what only the book's changes are -/
theorem Lies.chg {K : List (List UInt8)} (h : Lies K B vals) (cg : List (Nat × List UInt8)) : Lies K { B with changed := cg } vals := ⟨⟨h.f.rng, h.f.f, h.f.z, h.f.slen⟩, h.len, h.vlen, h.head, h.other, h.tabs, h.page⟩
theorem PV.chg (h : PV N W G D B vals) {cg : List (Nat × List UInt8)} (hc : ChOk { B with changed := cg }) : PV N W G D { B with changed := cg } vals :=
  ⟨h.lies.chg cg, h.pend, h.size, h.bsz, h.klen, h.wr, h.keep, h.arm, h.gen, hc, h.out⟩
theorem ChOk.nil (B : BookV) : ChOk { B with changed := [] } := ⟨by simp, by simp, by simp⟩
/-- another disk with the same sectors -/
theorem PV.disk (h : PV N W G D B vals) {D' : DiskV} (h1 : D'.kept = D.kept) (h2 : D'.pend = []) (h3 : D'.size = D.size) (h4 : D'.writes = D.writes) (h5 : D'.keep.length ≤ 1000000) (h6 : D'.armed = true → 1 ≤ D'.left ∧ D'.left ≤ 9223372036854775807) : PV N W G D' B vals :=
  ⟨by rw [h1]; exact h.lies, h2, by rw [h3]; exact h.size, h.bsz, by rw [h1]; exact h.klen, by rw [h4]; exact h.wr, h5, h6, h.gen, h.ch, by rw [h1]; exact h.out⟩
theorem PV.cut (h : PV N W G D B vals) (keep : List Bool) : PV N W G (D.cut keep) B vals := by
  refine h.disk ?_ rfl rfl rfl (by simp [DiskV.cut]) (fun e => by cases e)
  show settleN _ D.pend D.kept D.pend.length = _
  rw [h.pend]; rfl
theorem PV.on (h : PV N W G D B vals) : PV N W G D.on B vals := h.disk rfl h.pend rfl rfl h.keep h.arm
theorem PV.arming (h : PV N W G D B vals) (n : Int) (hn : n ≤ 9223372036854775807) (keep : List Bool) (hl : keep.length ≤ 1000000) : PV N W G (D.arm n keep) B vals := by
  refine h.disk rfl h.pend rfl rfl hl (fun _ => ?_)
  show 1 ≤ max n 1 ∧ max n 1 ≤ _
  omega
theorem ws_len {B : BookV} {next : List Bool} {ks : List Nat} {ch : Nat → List UInt8} : (wsOf B next ks ch).length = ks.length + B.T := by simp [wsOf]
theorem PV.commit (h : PV N W G D B vals) (ho : D.off = false) (hG : G < 1000000) :
    ((commitR B D).1 = 0 ∧ PV N (W + 2000) (G + 1) (commitR B D).2 (commitB B D) (curV B vals) ∧ (commitR B D).2.off = false ∧ (commitB B D).changed = []) ∨
    ((commitR B D).1 = 22 ∧ PV N (W + 2000) (G + 1) (commitR B D).2 B vals ∧ (commitR B D).2.off = true ∧ commitB B D = B) := by
  have hw := h.works ho
  have hp1 := h.pages
  have hb := fun x hx => commit_beside h.lies hw h.pend (h.size.trans h.bsz.symm) h.ch (x := x) hx
  have hT : B.T ≤ 2 := h.lies.f.places.1
  have hcl := h.ch.le
  have hkl := ks_len B.changed
  have hg := h.gen
  have hwr := h.wr
  rcases commit_lies h.lies hw h.pend (h.size.trans h.bsz.symm) (by omega) h.ch with ⟨e, q, hl⟩ | ⟨e, q, eB, hl⟩
  · have eB : commitB B D = { B with gen := B.gen + 1, second := nextL B, changed := [] } := by unfold commitB; rw [if_pos e]
    refine .inl ⟨e, ?_, q.w.off, by rw [eB]⟩
    refine ⟨hl, q.pend, q.size.trans h.size, by rw [eB]; exact h.bsz, ?_, ?_, by rw [q.keep]; exact h.keep, q.w.arm, by rw [eB]; show B.gen + 1 ≤ _; omega, by rw [eB]; exact ⟨by simp, by simp, by simp⟩, fun x hx ho => ?_⟩
    · rw [q.kept, List.length_set, settleN_len, h.klen]
    · rw [q.writes, ws_len]; omega
    · rw [eB] at ho
      rw [hb x ho]
      exact h.out x hx ho
  · refine .inr ⟨e, ?_, q.off, eB⟩
    refine ⟨hl, q.pend, q.size.trans h.size, h.bsz, ?_, ?_, by rw [q.keep]; simp, fun e => (by rw [q.armed] at e; cases e), by omega, h.ch, fun x hx ho => ?_⟩
    · obtain ⟨i, kf, -, ek⟩ := q.kept
      rw [ek, settleN_len, h.klen]
    · have := q.writes
      rw [ws_len] at this
      omega
    · rw [hb x ho]
      exact h.out x hx ho
end
/-- the side of memory -/
structure PM (w0 w : World) (d s : Nat) (F M : Nat → Prop) (D : DiskV) (B : BookV) : Prop where
  dk : DK w d F D
  bp : BP w s d M B
  ap : ∀ k, M k → ¬ F k
  own : ∀ k, F k ∨ M k → w0.heap.size ≤ k
  kp : Keeps nowhere w0 w
/-- a step of it -/
structure PStep (w : World) (F M : Nat → Prop) (w' : World) (F' M' : Nat → Prop) : Prop where
  kp : Keeps (fun k => F k ∨ M k) w w'
  g : ∀ k, F' k ∨ M' k → (F k ∨ M k) ∨ w.heap.size ≤ k
section
variable {w0 w w' : World} {d s : Nat} {F M F' M' : Nat → Prop} {N W G : Nat} {D D' : DiskV} {B B' : BookV} {vals : List (List UInt8)}
theorem PM.same (h : PM w0 w d s F M D B) (hk : Keeps nowhere w w') : PM w0 w' d s F M D B := ⟨h.dk.same hk, h.bp.same hk, h.ap, h.own, h.kp.more hk⟩
theorem PStep.refl (w : World) (F M : Nat → Prop) : PStep w F M w F M := ⟨Keeps.refl _ _, fun _ e => .inl e⟩
theorem PStep.same (hk : Keeps nowhere w w') : PStep w F M w' F M := ⟨hk.mono (fun _ _ h => h.elim), fun _ e => .inl e⟩
theorem PStep.trans {w1 : World} {F1 M1 : Nat → Prop} (h : PStep w F M w1 F1 M1) (k : PStep w1 F1 M1 w' F' M') : PStep w F M w' F' M' :=
  ⟨h.kp.trans k.kp (fun b hb e => (h.g b e).elim id (fun e => by omega)), fun b e => (k.g b e).elim (h.g b) (fun e => .inr (Nat.le_trans h.kp.size e))⟩
theorem PM.fin (h : PM w0 w d s F M D B) (hs : PStep w F M w' F' M') (h1 : DK w' d F' D') (h2 : BP w' s d M' B') (h3 : ∀ k, M' k → ¬ F' k) : PM w0 w' d s F' M' D' B' :=
  ⟨h1, h2, h3, fun k e => (hs.g k e).elim (h.own k) (fun e => Nat.le_trans h.kp.size e), h.kp.trans hs.kp (fun b hb e => by have := h.own b e; omega)⟩
/-- the disk alone has changed -/
theorem PM.dgo (h : PM w0 w d s F M D B) (hg : DGo w d F w' D') : ∃ F', PM w0 w' d s F' M D' B ∧ PStep w F M w' F' M := by
  obtain ⟨F', g1, g2, g3⟩ := hg
  have hst : PStep w F M w' F' M := ⟨g2.mono (fun _ _ e => .inl e), fun k e => e.elim (fun e => (g3 k e).imp .inl id) (fun e => .inl (.inr e))⟩
  refine ⟨F', h.fin hst g1 (h.bp.keepAll g2 (fun k hm hf => h.ap k hm hf) h.dk.notRaw) (fun k hm hf => (g3 k hf).elim (h.ap k hm) (fun e => by have := h.bp.lt k hm; omega)), hst⟩
/-- the book alone has changed -/
theorem PM.bgo (h : PM w0 w d s F M D B) (hg : BGo w s d M w' B') : ∃ M', PM w0 w' d s F M' D B' ∧ PStep w F M w' F M' := by
  obtain ⟨M', g1, g2, g3⟩ := hg
  have hst : PStep w F M w' F M' := ⟨g2.mono (fun _ _ e => .inr e), fun k e => e.elim (fun e => .inl (.inl e)) (fun e => (g3 k e).imp .inr id)⟩
  refine ⟨M', h.fin hst (h.dk.keepAll g2 (fun k hf hm => h.ap k hm hf) h.bp.notRaw) g1 (fun k hm hf => (g3 k hm).elim (fun e => h.ap k e hf) (fun e => by have := h.dk.lt k hf; omega)), hst⟩
/-- what a step leaves of rows -/
theorem PStep.raw (hs : PStep w F M w' F' M') (h : PM w0 w d s F M D B) {α : Type} {R : RecT α} {v : Value} {l : List α} (hr : R.Row w v l) (ht : R.t = 5 ∨ R.t = 4) : R.Row w' v l :=
  hr.keep hs.kp (fun b e hb => row_raw hr ht (hb.elim (h.dk.notRaw b) (h.bp.notRaw b)) e)
theorem pm_write (pg : Int) (A : Option Addr) (n cp : Nat) (g : Option Nat) (L : List UInt8) (h : PM w0 w d s F M D B) (ok : BOk B) (hr : recB.Rd w (.slice A n cp) g L) (hc : B.changed.length ≤ 100000) :
    Calls Try.prog 43 #[bp s, .int .i64 pg, .slice A n cp] w fun e w' => e = .returned (.int .i64 (writeE B pg L)) ∧ ∃ M', PM w0 w' d s F M' D (writeB B pg L) ∧ PStep w F M w' F M' :=
  (bwrite_any pg A n cp g L h.bp ok hr hc).mono fun e w' ⟨he, hg⟩ => ⟨he, h.bgo hg⟩
theorem pm_abort (h : PM w0 w d s F M D B) : Calls Try.prog 73 #[bp s] w fun e w' => e = .returned (.tuple #[]) ∧ ∃ M', PM w0 w' d s F M' D { B with changed := [] } ∧ PStep w F M w' F M' :=
  (babort_any h.bp).mono fun e w' ⟨he, hg⟩ => ⟨he, h.bgo hg⟩
theorem pm_commit (h : PM w0 w d s F M D B) (pv : PV N W G D B vals) (ho : D.off = false) (hN : N ≤ 100000) (hW : W < 1000000) (hG : G < 1000000) :
    Calls Try.prog 45 #[bp s] w fun e w' => e = .returned (.int .i64 (commitR B D).1) ∧ ∃ F' M', PM w0 w' d s F' M' (commitR B D).2 (commitB B D) ∧ PStep w F M w' F' M' := by
  have hp := pv.pages
  have hcl := pv.ch.le
  refine (bcommit_any h.dk h.bp h.ap (pv.ok hN hG) (by have := pv.gen; omega) (pv.lok hN hW) ho (pv.size.trans pv.bsz.symm) pv.lies.f.slen hp.1 pv.ch.rng (by omega)).mono ?_
  rintro e w' ⟨he, F', M', hb⟩
  have hst : PStep w F M w' F' M' := ⟨hb.kp, fun k e => e.elim (fun e => (hb.gf k e).imp .inl id) (fun e => (hb.gm k e).imp .inr id)⟩
  exact ⟨he, F', M', h.fin hst hb.dk hb.bp hb.ap, hst⟩
theorem pm_read (p : Nat) (h : PM w0 w d s F M D B) (pv : PV N W G D B vals) (ho : D.off = false) (hN : N ≤ 100000) (hW : W < 1000000) (hG : G < 1000000) (hp : p < B.pages) :
    Calls Try.prog 46 #[bp s, .int .i64 p] w (RetRd w (((curV B vals)[p]?).getD [])) := by
  rw [read_lies pv.lies pv.pend ho hp, Option.getD_some]
  have hpl := pv.lies.f.places
  have hrn := pv.lies.f.rng
  exact breadp_any p h.dk h.bp (pv.ok hN hG) (pv.lok hN hW).ok ho (pv.size.trans pv.bsz.symm) hp pv.lies.f.slen (by have := (hpl.2.2.1 p (boolF B.second p) hp).2; omega) (fun x hx => by rw [pv.ch.len x hx, pv.bsz]; omega)
theorem pm_cut (v : Value) (g : Option Nat) (keep : List Bool) (h : PM w0 w d s F M D B) (ok : DOk D) (hr : recBo.Rd w v g keep) (hg : ∀ k, g = some k → ¬ F k) :
    Calls Try.prog 27 #[dp d, v] w fun e w' => e = .returned (.tuple #[]) ∧ ∃ F', PM w0 w' d s F' M (D.cut keep) B ∧ PStep w F M w' F' M :=
  (dk_cut v g keep h.dk ok hr hg).mono fun e w' ⟨he, hg⟩ => ⟨he, h.dgo hg⟩
theorem pm_on (h : PM w0 w d s F M D B) : Calls Try.prog 28 #[dp d] w fun e w' => e = .returned (.tuple #[]) ∧ ∃ F', PM w0 w' d s F' M D.on B ∧ PStep w F M w' F' M :=
  (dk_on h.dk).mono fun e w' ⟨he, hg⟩ => ⟨he, h.dgo hg⟩
theorem pm_arm (n : Int) (v : Value) (g : Option Nat) (keep : List Bool) (h : PM w0 w d s F M D B) (hr : recBo.Rd w v g keep) (hl : keep.length ≤ 100000000) :
    Calls Try.prog 22 #[dp d, .int .i64 n, v] w fun e w' => e = .returned (.tuple #[]) ∧ ∃ F', PM w0 w' d s F' M (D.arm n keep) B ∧ PStep w F M w' F' M :=
  (dk_arm n v g keep h.dk hr hl).mono fun e w' ⟨he, hg⟩ => ⟨he, h.dgo hg⟩
theorem pm_open (h : PM w0 w d s F M D B) (pv : PV N W G D B vals) (ho : D.off = false) (hN : N ≤ 100000) (hW : W < 1000000) (hG : G < 1000000) (a n : Nat) (ha : a = B.a) (hn : n = B.n) :
    Calls Try.prog 40 #[dp d, .int .i64 a, .int .i64 n] w fun e w' => ∃ s' M', e = .returned (.tuple #[bp s', .int .i64 0]) ∧ PM w0 w' d s' F M' D { B with changed := [] } ∧ Keeps nowhere w w' ∧ ∀ k, M' k → w.heap.size ≤ k := by
  subst ha hn
  have hz : D.size = B.size := pv.size.trans pv.bsz.symm
  have hol := open_lies pv.lies pv.pend ho (by have := pv.gen; omega) hz
  have hrn := pv.lies.f.rng
  have hfs := pv.lies.f.f
  refine (bopen_ok B.a B.n h.dk (pv.lok hN hW).ok (by rw [pv.size]; omega) ho (by have := hfs.2.2; omega) hrn hol.1 hol.2.1).mono ?_
  rintro e w' ⟨s', M', he, hd, hb, hM, hk⟩
  rw [hol.2.2] at hb
  exact ⟨s', M', he, ⟨hd, hb, fun k hm hf => by have := h.dk.lt k hf; have := hM k hm; omega, fun k e => e.elim (fun e => h.own k (.inl e)) (fun e => Nat.le_trans h.kp.size (hM k e)), h.kp.more hk⟩, hk, hM⟩
/-- Format on a new disk -/
theorem pm_format (N' a n p : Nat) (o : DOwn w0 w d F (freshD N' 64)) (hN : a + n ≤ N') (hN2 : N' ≤ 100000) (hf : fitsN n p) :
    Calls Try.prog 39 #[dp d, .int .i64 a, .int .i64 n, .int .i64 p] w fun e w' => ∃ s F' M' D', e = .returned (.tuple #[bp s, .int .i64 0]) ∧ PM w0 w' d s F' M' D' ⟨a, n, 64, 1, p, List.replicate p false, []⟩ ∧ PV N' 2000 1 D' ⟨a, n, 64, 1, p, List.replicate p false, []⟩ (List.replicate p (zerosB 48)) ∧ D'.off = false ∧ D'.armed = false ∧ D'.keep = [] ∧ (∀ k, F' k ∨ M' k → F k ∨ w.heap.size ≤ k) := by
  obtain ⟨f1, f2, f3⟩ := id hf
  have hkl : (freshD N' 64).kept.length = N' := by simp [freshD]
  obtain ⟨h0, hfm⟩ := fmt_fresh (N := N') (z := 64) (a := a) (n := n) (p := p) (by omega) hN hf
  have lok : LOk (freshD N' 64) 8000 := ⟨by simp [freshD], by simp [freshD], by rw [hkl]; omega, by rw [hkl]; show N' * 64 ≤ _; omega, by simp [freshD], fun e => (by cases e), by simp [freshD]⟩
  refine (bformat_ok a n p o.k lok (by simp [freshD]) rfl (by rw [hkl]; exact hN) hf (by rw [newest_fresh (by omega)]) h0).mono ?_
  rintro e w' ⟨s, F', M', he, hb⟩
  have hg : ∀ k, F' k ∨ M' k → F k ∨ w.heap.size ≤ k := fun k e => e.elim (fun e => hb.gf k e) (fun e => (hb.gm k e).elim (fun e => e.elim) .inr)
  refine ⟨s, F', M', _, he, ⟨hb.dk, hb.bp, hb.ap, fun k e => (hg k e).elim (o.own k) (fun e => Nat.le_trans o.kp.size e), o.kp.trans hb.kp (fun k hk e => e.elim (fun e => by have := o.own k e; omega) (fun e => e.elim))⟩, ?_, hfm.off, hfm.armed, hfm.keep, hg⟩
  exact ⟨hfm.lies, hfm.pend, hfm.size, rfl, hfm.klen, by have := hfm.writes; omega, by rw [hfm.keep]; simp, fun e => (by rw [hfm.armed] at e; cases e), by show 1 ≤ 1; omega, ⟨by simp, by simp, by simp⟩, hfm.out⟩
end
end Go.Proofs.Ytnddaildicmneaa
/-
  pages: what is known.
-/
namespace Go.Proofs.Ytnddaildicmneaa
open Go.Proofs Go.RowKit Go.Sort Go.Maps

theorem commitB_same (B : BookV) (D : DiskV) : (commitB B D).a = B.a ∧ (commitB B D).n = B.n ∧ (commitB B D).size = B.size ∧ (commitB B D).pages = B.pages := by
  unfold commitB
  split <;> exact ⟨rfl, rfl, rfl, rfl⟩
theorem commit_unarmed {N W G : Nat} {D : DiskV} {B : BookV} {vals : List (List UInt8)} (h : PV N W G D B vals) (ho : D.off = false) (ha : D.armed = false) : (commitR B D).1 = 0 := by
  have hks : ∀ p ∈ ksOf B.changed, p < B.pages := fun p hp => by
    obtain ⟨L, hL⟩ := ks_mem.1 hp
    exact h.ch.rng _ hL
  have hrn := h.lies.f.rng
  have hz := h.size.trans h.bsz.symm
  have hrr : ∀ x ∈ wsOf B (nextL B) (ksOf B.changed) (lookL B.changed), x.1 < D.kept.length ∧ x.2.length = D.size := fun x hx => by
    have := ws_rng h.lies.f hks hx
    exact ⟨by omega, by rw [hz]; exact this.2.2⟩
  have hpl := h.lies.f.places
  have hhd : (hdOf B).1 < D.kept.length := by show B.a + (B.gen + 1) % 2 < _; omega
  have hhl : (hdOf B).2.length = D.size := by rw [hz]; exact padL_len _ _
  exact lay_unarmed ho ha h.pend hrr hhd hhl
theorem row_of3 {w : World} {b : Nat} (h : Blk w b 4 #[.bool true, .bool true, .bool true]) : recBo.Row w (.slice (some ⟨b, 0, none⟩) 3 3) [true, true, true] :=
  RecT.Row.of_blk (R := recBo) (l := [true, true, true]) (cap := 3) (rest := []) (by simpa [RecT.cells, recBo] using h) (by decide) (by decide)
def kX8 : List UInt8 := (zerosB 48).set 0 9
def kB : BookV := ⟨0, 40, 64, 1, 3, List.replicate 3 false, []⟩
def kB2 : BookV := { kB with changed := [(0, kX8)] }
theorem kfit : fitsN 40 3 := by decide
theorem kw1 : writeE kB 0 kX8 = 0 ∧ writeB kB 0 kX8 = kB2 := by
  have h : writeOk kB 0 kX8 = true := by kernel_rfl
  unfold writeE writeB
  rw [if_pos h, if_pos h]
  exact ⟨rfl, rfl⟩
theorem kw2 {B : BookV} (hp : B.pages = 3) (hz : B.size = 64) (hc : B.changed = []) : writeE B 1 kX8 = 0 ∧ writeB B 1 kX8 = { B with changed := [(1, kX8)] } := by
  have h : writeOk B 1 kX8 = true := by
    unfold writeOk inP
    rw [hp, hz]; kernel_rfl
  unfold writeE writeB
  rw [if_pos h, if_pos h, hc]
  exact ⟨rfl, rfl⟩
theorem kcur (vals : List (List UInt8)) (hv : vals = List.replicate 3 (zerosB 48)) : curV kB2 vals = [kX8, zerosB 48, zerosB 48] := by rw [hv]; kernel_rfl
theorem kch : ChOk kB2 := ⟨by decide, by intro x hx; rw [List.mem_singleton.1 hx]; decide, by intro x hx; rw [List.mem_singleton.1 hx]; kernel_rfl⟩
theorem kch2 {B : BookV} (hp : B.pages = 3) (hz : B.size = 64) : ChOk { B with changed := [(1, kX8)] } := ⟨by simp, by intro x hx; rw [List.mem_singleton.1 hx]; show 1 < B.pages; omega, by intro x hx; rw [List.mem_singleton.1 hx]; show kX8.length = B.size - 16; rw [hz]; kernel_rfl⟩
theorem kks : (ksOf [(1, kX8)]).map (fun n : Nat => (n : Int)) = [1] := by kernel_rfl
theorem rdI_cell {w : World} {A : Option Addr} {n c : Nat} {g : Option Nat} {x : Int} (h : recI.Rd w (.slice A n c) g [x]) : ∃ b o, A = some ⟨b, o, none⟩ ∧ w.cell? ⟨b, o, none⟩ = some (.int .i64 x) := by
  obtain ⟨b, o, h1, h2⟩ := rdI_cl h (Keeps.refl nowhere w) (i := 0) (x := x) rfl
  exact ⟨b, o, h1, h2⟩
set_option maxRecDepth 20000 in
set_option maxHeartbeats 8000000 in
theorem known8 (w : World) : Calls Try.prog 38 #[] w (YesD w) := by
  have hxl : kX8.length = 48 := by kernel_rfl
  have Hxl := Lib.hid hxl
  clear hxl
  go_enter Try.func38, Try.ntmps38
  go_wp2_with fail
  refine (own_new 40 64 (Keeps.refl nowhere w) (by decide) (by decide) (by decide) (by decide)).mono ?_
  rintro e w1 ⟨d, F1, rfl, o1, -, -⟩
  have hf := pm_format 40 0 40 3 o1 (by omega) (by omega) kfit
  unfold dp at *
  have O1 := Lib.hid o1
  have Hf := Lib.hid hf
  clear o1 hf
  go_wp2_with fail
  refine (Hf.out).mono ?_
  rintro e w2 ⟨s, F2, M2, D2, rfl, pm2, pv2, ho2, ha2, hk2, -⟩
  clear Hf
  change PM w w2 d s F2 M2 D2 kB at pm2
  change PV 40 2000 1 D2 kB _ at pv2
  have hmost := bmost_any pm2.bp
  unfold bp at *
  have Pm2 := Lib.hid pm2
  have Pv2 := Lib.hid pv2
  have Ho2 := Lib.hid ho2
  have Ha2 := Lib.hid ha2
  have Hk2 := Lib.hid hk2
  have Hmost := Lib.hid hmost
  clear pm2 pv2 ho2 ha2 hk2 hmost
  go_wp2_with fail
  refine (Hmost.out).mono ?_
  rintro e w' ⟨rfl, rfl⟩
  clear Hmost
  go_wp2_with (at_make; refine wpList_make_bytesB _ rfl _ _ rfl 48 48 rfl rfl rfl (by omega) ?_)
  intro w3 hx3 hk3
  obtain ⟨q, hq⟩ : ∃ q, q = w2.heap.size := ⟨_, rfl⟩
  rw [← hq] at hx3
  simp only [← hq]
  obtain ⟨⟨u, cu⟩, fu, hx4, hk4⟩ := row_set hx3 (i := 0) (by decide) 9
  obtain ⟨w4, hw4⟩ : ∃ w4, w4 = w3.setCell ⟨q, 0, none⟩ (bv 9) := ⟨_, rfl⟩
  rw [← hw4] at hx4 hk4
  have hk24 : Keeps nowhere w2 w4 := hk3.trans hk4 (fun k hk e => by have e2 : k = q := e; omega)
  have pm4 := Pm2.out.same hk24
  change recB.Row w4 _ kX8 at hx4
  have hw4' : w4 = w3.setCell ⟨q, 0, none⟩ (.int .u8 9) := hw4
  have hc1 := pm_write 0 _ 48 48 _ kX8 pm4 (Pv2.out.ok (by omega) (by omega)) hx4.rd (by decide)
  rw [kw1.1, kw1.2] at hc1
  unfold bp at hc1
  clear hx3 hk3 hk4 hw4 hk24
  have Hx4 := Lib.hid hx4
  have Pm4 := Lib.hid pm4
  have Hq := Lib.hid hq
  have Hw4' := Lib.hid hw4'
  have Hc1 := Lib.hid hc1
  clear hx4 pm4 hq hw4' hc1
  go_upto_region 9 with fail
  rw [← Hw4'.out]
  clear cu fu
  go_wp2_with fail
  refine (Hc1.out).mono ?_
  rintro e w5 ⟨rfl, M5, pm5, st5⟩
  clear Hc1
  have hx5 := st5.raw Pm4.out Hx4.out (.inl rfl)
  have pv5 : PV 40 2000 1 D2 kB2 _ := Pv2.out.chg kch
  have hc2 := pm_commit pm5 pv5 Ho2.out (by omega) (by omega) (by omega)
  have hr0 := commit_unarmed pv5 Ho2.out Ha2.out
  rw [hr0] at hc2
  unfold bp at hc2
  have Pm5 := Lib.hid pm5
  have St5 := Lib.hid st5
  have Hx5 := Lib.hid hx5
  have Pv5 := Lib.hid pv5
  have Hc2 := Lib.hid hc2
  have Hr0 := Lib.hid hr0
  clear pm5 st5 hx5 pv5 hc2 hr0
  go_wp2_with fail
  refine (Hc2.out).mono ?_
  rintro e w6 ⟨rfl, F6, M6, pm6, st6⟩
  clear Hc2
  have hx6 := st6.raw Pm5.out Hx5.out (.inl rfl)
  obtain ⟨pv6, hch6, hoff6⟩ : PV 40 4000 2 (commitR kB2 D2).2 (commitB kB2 D2) [kX8, zerosB 48, zerosB 48] ∧ (commitB kB2 D2).changed = [] ∧ (commitR kB2 D2).2.off = false := by
    rcases Pv5.out.commit Ho2.out (by omega) with ⟨-, h1, h2, h3⟩ | ⟨h1, -⟩
    · rw [kcur _ rfl] at h1
      exact ⟨h1, h3, h2⟩
    · have := Hr0.out; omega
  obtain ⟨b1, b2, b3, b4⟩ := commitB_same kB2 D2
  obtain ⟨B6, hB6⟩ : ∃ B6, B6 = commitB kB2 D2 := ⟨_, rfl⟩
  obtain ⟨D6, hD6⟩ : ∃ D6, D6 = (commitR kB2 D2).2 := ⟨_, rfl⟩
  rw [← hB6] at b1 b2 b3 b4 hch6 pm6 pv6
  rw [← hD6] at pm6 pv6 hoff6
  have b1' : B6.a = 0 := b1
  have b2' : B6.n = 40 := b2
  have b3' : B6.size = 64 := b3
  have b4' : B6.pages = 3 := b4
  obtain ⟨k1, k2⟩ := kw2 b4' b3' hch6
  have hc3 := pm_write 1 _ 48 48 _ kX8 pm6 (pv6.ok (by omega) (by omega)) hx6.rd (by rw [hch6]; decide)
  rw [k1, k2] at hc3
  unfold bp at hc3
  have pv7 : PV 40 4000 2 D6 { B6 with changed := [(1, kX8)] } _ := pv6.chg (kch2 b4' b3')
  clear b1 b2 b3 b4 k1 k2
  have Pm6 := Lib.hid pm6
  have St6 := Lib.hid st6
  have Hx6 := Lib.hid hx6
  have Pv6 := Lib.hid pv6
  have Hc3 := Lib.hid hc3
  have HB6 := Lib.hid hB6
  have HD6 := Lib.hid hD6
  have Hch6 := Lib.hid hch6
  have Hoff6 := Lib.hid hoff6
  have Pv7 := Lib.hid pv7
  have B1' := Lib.hid b1'
  have B2' := Lib.hid b2'
  have B3' := Lib.hid b3'
  have B4' := Lib.hid b4'
  clear pm6 st6 hx6 pv6 hc3 hB6 hD6 hch6 hoff6 pv7 b1' b2' b3' b4'
  go_wp2_with fail
  refine (Hc3.out).mono ?_
  rintro e w7 ⟨rfl, M7, pm7, st7⟩
  clear Hc3
  have hcg := bchanged_any pm7.bp (by show 1 ≤ 100000; decide)
  unfold bp at hcg
  have Pm7 := Lib.hid pm7
  have St7 := Lib.hid st7
  have Hcg := Lib.hid hcg
  clear pm7 st7 hcg
  go_wp2_with fail
  refine (Hcg.out).mono ?_
  rintro e w8 ⟨Ac, gc, rfl, hrc, habc, hk8⟩
  clear Hcg
  simp only [List.length_cons, List.length_nil, Nat.zero_add, kks] at hrc ⊢
  have pm8 := Pm7.out.same hk8
  obtain ⟨bc, oc, hAc, hcc⟩ := rdI_cell hrc
  subst hAc
  have hgc : gc = some bc := by
    obtain ⟨A', c', hv, -, -, -, h3, -⟩ := id hrc
    obtain ⟨b', o', hA, hg, -⟩ := h3 (by decide)
    injection hv with e1 _ _
    rw [hA] at e1
    injection e1 with e1
    injection e1 with e1 _
    rw [hg, e1]
  have hb7 : w7.heap.size ≤ bc := habc bc hgc
  have hb8 : bc < w8.heap.size := by
    obtain ⟨-, -, -, -, -, hu, -⟩ := id hrc
    exact hu bc hgc
  have hnF7 : ∀ k, F6 k ∨ M7 k → k ≠ bc := fun k e h => by
    have := e.elim (Pm7.out.dk.lt k) (Pm7.out.bp.lt k)
    omega
  obtain ⟨w9, hw9⟩ : ∃ w9, w9 = w8.alloc (.cells #[.bool true, .bool true, .bool true] 4) := ⟨_, rfl⟩
  have hk9 : Keeps nowhere w8 w9 := by rw [hw9]; exact (Keeps.refl nowhere w8).alloc _
  have hb9 : Blk w9 w8.heap.size 4 #[.bool true, .bool true, .bool true] := by rw [hw9]; exact Blk.new _ _ _
  have pm9 := pm8.same hk9
  have hc4 := pm_cut _ _ [true, true, true] pm9 (Pv7.out.lok (by omega) (by omega)).ok (row_of3 hb9).rd (fun k e hF => by
    have e2 : w8.heap.size = k := by simpa [Value.ownBlock] using e
    have := pm8.dk.lt k hF; omega)
  unfold dp at hc4
  rw [hw9] at hc4
  have hcc9 : w9.cell? ⟨bc, oc, none⟩ = some (.int .i64 1) := by rw [hk9.cell (p := ⟨bc, oc, none⟩) hb8 (fun h => h)]; exact hcc
  have hb9' : bc < w9.heap.size := Nat.lt_of_lt_of_le hb8 hk9.size
  rw [hw9] at pm9 hcc9 hb9'
  clear hb9 hk9 hw9
  have Pm8 := Lib.hid pm8
  have Hrc := Lib.hid hrc
  have Pm9 := Lib.hid pm9
  have Hcc9 := Lib.hid hcc9
  have Hc4 := Lib.hid hc4
  have Hk8 := Lib.hid hk8
  have HnF7 := Lib.hid hnF7
  have Hb7 := Lib.hid hb7
  have Hb8 := Lib.hid hb8
  have Hcc := Lib.hid hcc
  have Hb9' := Lib.hid hb9'
  have Hgc := Lib.hid hgc
  have Habc := Lib.hid habc
  clear pm8 hrc pm9 hcc9 hc4 hk8 hnF7 hb7 hb8 hcc hb9' hgc habc
  go_wp2_with fail
  refine Hc4.out.mono ?_
  rintro e wa ⟨rfl, Fa, pma, sta⟩
  clear Hc4
  have pva := Pv7.out.cut [true, true, true]
  have hc5 := pm_on pma
  unfold dp at hc5
  have hcca : wa.cell? ⟨bc, oc, none⟩ = some (.int .i64 1) := by rw [sta.kp.cell (p := ⟨bc, oc, none⟩) Hb9'.out (fun h => HnF7.out bc h rfl)]; exact Hcc9.out
  have hnFa : ∀ k, Fa k ∨ M7 k → k ≠ bc := fun k e h => (sta.g k e).elim (fun e => HnF7.out k e h) (fun e => by have := Hb9'.out; omega)
  have hba : bc < wa.heap.size := Nat.lt_of_lt_of_le Hb9'.out sta.kp.size
  have Pma := Lib.hid pma
  have Sta := Lib.hid sta
  have Pva := Lib.hid pva
  have Hc5 := Lib.hid hc5
  have Hcca := Lib.hid hcca
  have HnFa := Lib.hid hnFa
  have Hba := Lib.hid hba
  clear pma sta pva hc5 hcca hnFa hba
  go_wp2_with fail
  refine (Hc5.out).mono ?_
  rintro e wb ⟨rfl, Fb, pmb, stb⟩
  clear Hc5
  have pvb := Pva.out.on
  have hc6 := pm_open pmb pvb rfl (by omega) (by omega) (by omega) 0 40 B1'.out.symm B2'.out.symm
  unfold dp bp at hc6
  have hccb : wb.cell? ⟨bc, oc, none⟩ = some (.int .i64 1) := by rw [stb.kp.cell (p := ⟨bc, oc, none⟩) Hba.out (fun h => HnFa.out bc h rfl)]; exact Hcca.out
  have hbb : bc < wb.heap.size := Nat.lt_of_lt_of_le Hba.out stb.kp.size
  have Pmb := Lib.hid pmb
  have Stb := Lib.hid stb
  have Pvb := Lib.hid pvb
  have Hc6 := Lib.hid hc6
  have Hccb := Lib.hid hccb
  have Hbb := Lib.hid hbb
  clear pmb stb pvb hc6 hccb hbb
  go_wp2_with fail
  refine (Hc6.out).mono ?_
  rintro e wc ⟨t, Mc, rfl, pmc, hkc, -⟩
  clear Hc6
  have pvc := Pvb.out.chg (ChOk.nil _)
  obtain ⟨Bc, hBc⟩ : ∃ Bc : BookV, Bc = { B6 with changed := [] } := ⟨_, rfl⟩
  obtain ⟨Dc, hDc⟩ : ∃ Dc, Dc = (D6.cut [true, true, true]).on := ⟨_, rfl⟩
  change PM w wc d t Fb Mc _ { B6 with changed := [] } at pmc
  change PV 40 4000 2 _ { B6 with changed := [] } _ at pvc
  have hoc : Dc.off = false := by rw [hDc]; rfl
  have hpc : Bc.pages = 3 := by rw [hBc]; exact B4'.out
  have hcur : curV Bc [kX8, zerosB 48, zerosB 48] = [kX8, zerosB 48, zerosB 48] := curV_nil (by rw [hBc])
  rw [← hBc, ← hDc] at pmc pvc
  have hc7 := pm_read 0 pmc pvc hoc (by omega) (by omega) (by omega) (by omega)
  rw [hcur] at hc7
  change Calls Try.prog _ _ _ (RetRd wc kX8) at hc7
  unfold bp RetRd at hc7
  rw [Hxl.out, show ((0 : Nat) : Int) = 0 from rfl] at hc7
  have Pmc := Lib.hid pmc
  have Hkc := Lib.hid hkc
  have Pvc := Lib.hid pvc
  have HBc := Lib.hid hBc
  have HDc := Lib.hid hDc
  have Hoc := Lib.hid hoc
  have Hpc := Lib.hid hpc
  have Hcur := Lib.hid hcur
  have Hc7 := Lib.hid hc7
  clear pmc hkc pvc hBc hDc hoc hpc hcur hc7
  go_wp2_with fail
  refine (Hc7.out).mono ?_
  rintro e wd ⟨Ad, cd, gd, rfl, hrd, -, hkd⟩
  clear Hc7
  have pmd := Pmc.out.same hkd
  have hc8 := pm_read 1 pmd Pvc.out Hoc.out (by omega) (by omega) (by omega) (by rw [Hpc.out]; omega)
  rw [Hcur.out] at hc8
  change Calls Try.prog _ _ _ (RetRd wd (zerosB 48)) at hc8
  unfold bp RetRd at hc8
  rw [show (zerosB 48).length = 48 from rfl, show ((1 : Nat) : Int) = 1 from rfl] at hc8
  have Pmd := Lib.hid pmd
  have Hkd := Lib.hid hkd
  have Hrd := Lib.hid hrd
  have Hc8 := Lib.hid hc8
  clear pmd hkd hrd hc8
  go_wp2_with fail
  refine (Hc8.out).mono ?_
  rintro e we ⟨Ae, ce, ge, rfl, hre, -, hke⟩
  clear Hc8
  have hrd' := Hrd.out.same hke
  have hpg := bpages_any ((Pmd.out.same hke).bp)
  rw [Hpc.out] at hpg
  unfold bp at hpg
  obtain ⟨b9, f9, c9', hv9, -, hx9⟩ := rdB_at hrd' (by decide)
  obtain ⟨ba, fa, ca', hva, -, hxa⟩ := rdB_at hre (by decide)
  injection hv9 with hA9 e9 hc9
  injection hva with hAa ea hca
  clear e9 ea
  subst hA9 hc9 hAa hca
  have x9 := hx9 0 9 rfl
  have xa := hxa 0 0 rfl
  simp [bv] at x9 xa
  have hkp := (Pmd.out.same hke).kp
  have hce : we.cell? ⟨bc, oc, none⟩ = some (.int .i64 1) := by
    rw [((Hkc.out.more Hkd.out).more hke).cell (p := ⟨bc, oc, none⟩) Hbb.out (fun h => h)]; exact Hccb.out
  clear hx9 hxa hrd'
  have Hpg := Lib.hid hpg
  have Hre := Lib.hid hre
  have Hke := Lib.hid hke
  have Hkp := Lib.hid hkp
  clear hpg hre hke hkp
  go_wp2_with fail
  refine (Hpg.out).mono ?_
  rintro e wf ⟨rfl, rfl⟩
  go_wp2_with fail
  go_ret
  exact ⟨rfl, Hkp.out⟩
end Go.Proofs.Ytnddaildicmneaa
