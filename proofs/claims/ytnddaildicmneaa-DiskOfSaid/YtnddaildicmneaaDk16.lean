/-
  disk: each method in one word: a disk with its footprint.
-/
import Derived.Test.YtnddaildicmneaaDk15
namespace Go.Proofs.Ytnddaildicmneaa
open Go.Proofs Go.RowKit Go.Sort Go.Maps

/-- a disk; `F`: the blocks that its methods may write -/
def DK (w : World) (d : Nat) (F : Nat → Prop) (D : DiskV) : Prop := ∃ b kv kp ks vs, F = DS d b kv ∧ DAt w d b kv kp ks vs D
/-- what a method leaves behind -/
def DGo (w : World) (d : Nat) (F : Nat → Prop) (w' : World) (D : DiskV) : Prop := ∃ F', DK w' d F' D ∧ Keeps F w w' ∧ ∀ k, F' k → F k ∨ w.heap.size ≤ k
/-- a disk as the methods want it -/
structure DOk (D : DiskV) : Prop where
  pend : D.pend.length ≤ 80000
  size : D.size ≤ 1000000
  kept : D.kept.length ≤ 1000000
  all : D.kept.length * D.size ≤ 100000000
  writes : D.writes < 900000000
  arm : D.armed = true → 1 ≤ D.left ∧ D.left ≤ 9223372036854775807
  keep : D.keep.length ≤ 100000000
def dp (d : Nat) : Value := .pointer (some ⟨d, 0, none⟩)
def DiskV.write (D : DiskV) (s : Int) (L : List UInt8) : Int × DiskV :=
  if D.off = true then (22, D) else if 0 ≤ s ∧ s < D.kept.length ∧ L.length = D.size then
    (if D.armed = true then (if D.left ≤ 1 then (22, D.less.cut D.keep) else (0, D.less.wrote s.toNat L)) else (0, D.wrote s.toNat L))
  else (1, D)
section
variable {w w' : World} {d : Nat} {F : Nat → Prop} {D : DiskV}
theorem DK.lt (h : DK w d F D) : ∀ k, F k → k < w.heap.size := by
  obtain ⟨b, kv, kp, ks, vs, rfl, h⟩ := h
  rintro k (e | e | e)
  · rw [e]; exact h.box.lt
  · rw [e]; exact h.map.lt
  · exact h.kept.lt k e
theorem DK.keepAll {S : Nat → Prop} (h : DK w d F D) (hk : Keeps S w w') (hd : ∀ k, F k → ¬ S k) (hr : ∀ k, S k → NotRaw w k) : DK w' d F D := by
  obtain ⟨b, kv, kp, ks, vs, rfl, h⟩ := h
  exact ⟨b, kv, kp, ks, vs, rfl, h.keepAll hk hd hr⟩
theorem DK.same (h : DK w d F D) (hk : Keeps nowhere w w') : DK w' d F D := by
  obtain ⟨b, kv, kp, ks, vs, rfl, h⟩ := h
  exact ⟨b, kv, kp, ks, vs, rfl, h.same hk⟩
theorem DK.notRaw (h : DK w d F D) : ∀ k, F k → NotRaw w k := by
  obtain ⟨b, kv, kp, ks, vs, rfl, h⟩ := h
  exact h.notRaw
theorem DK.flat (h : DK w d F D) : D.kept.flatten.length = D.kept.length * D.size := by
  obtain ⟨b, kv, kp, ks, vs, rfl, h⟩ := h
  have : ∀ L ∈ D.kept, L.length = D.size := fun L hL => by
    obtain ⟨i, hi, e⟩ := List.getElem_of_mem hL
    have h1 : D.kept[i]? = some L := by rw [List.getElem?_eq_getElem hi, e]
    have h2 : ks[i]? = some (ks[i]'(by rw [h.klen]; exact hi)) := List.getElem?_eq_getElem _
    exact (h.sec i _ L h2 h1).2
  rw [List.length_flatten]
  clear h
  revert this
  generalize D.kept = l
  intro this
  induction l with
  | nil => simp
  | cons L l ih =>
    rw [List.map_cons, List.sum_cons, ih (fun M hM => this M (by simp [hM])), this L (by simp), List.length_cons, Nat.succ_mul]; omega
theorem DK.go (h : DK w d F D) (hk : Keeps nowhere w w') : DGo w d F w' D := ⟨F, h.same hk, hk.mono (fun _ _ h => h.elim), fun _ h => .inl h⟩
theorem go_mk {b b' : Nat} {kv kp : Value} {ks : List SlV} {vs : List Value} {D' : DiskV} (h : DAt w' d b' kv kp ks vs D') (hb : b' = b ∨ w.heap.size ≤ b') (hk : Keeps (DS d b kv) w w') : DGo w d (DS d b kv) w' D' := by
  refine ⟨DS d b' kv, ⟨b', kv, kp, ks, vs, rfl, h⟩, hk, ?_⟩
  rintro k (e | e | e)
  · exact .inl (.inl e)
  · rcases hb with hb | hb
    · exact .inl (.inr (.inl (e.trans hb)))
    · exact .inr (by omega)
  · exact .inl (.inr (.inr e))
def RetN (x : Int) (w : World) (d : Nat) (F : Nat → Prop) (D : DiskV) : Ending → World → Prop := fun e w' => e = .returned (.int .i64 x) ∧ DGo w d F w' D
def RetT (w : World) (d : Nat) (F : Nat → Prop) (D : DiskV) : Ending → World → Prop := fun e w' => e = .returned (.tuple #[]) ∧ DGo w d F w' D
theorem dk_write (s : Int) (v : Value) (g : Option Nat) (L : List UInt8) (h : DK w d F D) (ok : DOk D) (hr : recB.Rd w v g L) (hg : ∀ k, g = some k → ¬ F k) :
    Calls Try.prog 23 #[dp d, .int .i64 s, v] w (RetN (D.write s L).1 w d F (D.write s L).2) := by
  have hK := h
  obtain ⟨b, kv, kp, ks, vs, rfl, h⟩ := h
  unfold DiskV.write
  by_cases ho : D.off = true
  · rw [if_pos ho]
    exact (dwrite_off s v h ho).mono fun e w' ⟨he, hk⟩ => ⟨he, hK.go hk⟩
  · have ho' : D.off = false := by simpa using ho
    rw [if_neg ho]
    by_cases hb : 0 ≤ s ∧ s < D.kept.length ∧ L.length = D.size
    · rw [if_pos hb]
      obtain ⟨h1, h2, h3⟩ := hb
      obtain ⟨x, rfl⟩ := Int.eq_ofNat_of_zero_le h1
      rw [Int.toNat_natCast]
      have hx : x < D.kept.length := by omega
      have q1 := ok.pend
      have q2 := ok.writes
      by_cases ha : D.armed = true
      · rw [if_pos ha]
        obtain ⟨a1, a2⟩ := ok.arm ha
        by_cases hl : D.left ≤ 1
        · rw [if_pos hl]
          refine (dwrite_cut x v g L h hr ho' ha (by omega) hx h3 (by omega) ok.size ok.kept (by omega)).mono ?_
          rintro e w' ⟨he, b', hb', ⟨ks', kp', hd⟩, hk⟩
          exact ⟨he, go_mk hd (.inr hb') hk⟩
        · rw [if_neg hl]
          refine (dwrite_less x v g L h hr ho' ha hg (by omega) a2 hx h3 (by omega) ok.size ok.kept (by omega)).mono ?_
          rintro e w' ⟨he, ⟨vs', hd⟩, hk⟩
          exact ⟨he, go_mk hd (.inl rfl) hk⟩
      · rw [if_neg ha]
        refine (dwrite_ok x v g L h hr ho' (by simpa using ha) hx h3 (by omega) ok.size ok.kept (by omega)).mono ?_
        rintro e w' ⟨he, ⟨vs', hd⟩, hk⟩
        exact ⟨he, go_mk hd (.inl rfl) hk⟩
    · rw [if_neg hb]
      exact (dwrite_arg s v g L h hr ho' hb).mono fun e w' ⟨he, hk⟩ => ⟨he, hK.go hk⟩
def DiskV.syncs (D : DiskV) : Int × DiskV := if D.off = true then (22, D) else (0, D.sync)
theorem dk_sync (h : DK w d F D) (ok : DOk D) : Calls Try.prog 26 #[dp d] w (RetN D.syncs.1 w d F D.syncs.2) := by
  have hK := h
  obtain ⟨b, kv, kp, ks, vs, rfl, h⟩ := h
  unfold DiskV.syncs
  by_cases ho : D.off = true
  · rw [if_pos ho]
    exact (dsync_off h ho).mono fun e w' ⟨he, hk⟩ => ⟨he, hK.go hk⟩
  · rw [if_neg ho]
    refine (dsync_on h (by simpa using ho) (by have := ok.pend; omega)).mono ?_
    rintro e w' ⟨he, b', hb', ⟨ks', hd⟩, hk⟩
    exact ⟨he, go_mk hd (.inr hb') hk⟩
theorem dk_cut (v : Value) (g : Option Nat) (keep : List Bool) (h : DK w d F D) (ok : DOk D) (hr : recBo.Rd w v g keep) (hg : ∀ k, g = some k → ¬ F k) :
    Calls Try.prog 27 #[dp d, v] w (RetT w d F (D.cut keep)) := by
  obtain ⟨b, kv, kp, ks, vs, rfl, h⟩ := h
  refine (dcut_any v g keep h hr hg (by have := ok.pend; omega)).mono ?_
  rintro e w' ⟨he, b', hb', ⟨ks', kp', hd⟩, hk⟩
  exact ⟨he, go_mk hd (.inr hb') hk⟩
theorem keeps_DS {b : Nat} {kv : Value} (hk : Keeps (only d) w w') : Keeps (DS d b kv) w w' := hk.mono fun _ _ e => .inl e
def DiskV.on (D : DiskV) : DiskV := ⟨D.size, D.kept, D.pend, false, D.armed, D.left, D.keep, D.writes⟩
def DiskV.arm (D : DiskV) (n : Int) (keep : List Bool) : DiskV := ⟨D.size, D.kept, D.pend, D.off, true, max n 1, keep, D.writes⟩
theorem dk_on (h : DK w d F D) : Calls Try.prog 28 #[dp d] w (RetT w d F D.on) := by
  obtain ⟨b, kv, kp, ks, vs, rfl, h⟩ := h
  refine (don2_any h).mono ?_
  rintro e w' ⟨he, ⟨kp', hd⟩, hk⟩
  exact ⟨he, go_mk hd (.inl rfl) (keeps_DS hk)⟩
theorem dk_arm (n : Int) (v : Value) (g : Option Nat) (keep : List Bool) (h : DK w d F D) (hr : recBo.Rd w v g keep) (hl : keep.length ≤ 100000000) :
    Calls Try.prog 22 #[dp d, .int .i64 n, v] w (RetT w d F (D.arm n keep)) := by
  obtain ⟨b, kv, kp, ks, vs, rfl, h⟩ := h
  refine (darm_any n v g keep h hr hl).mono ?_
  rintro e w' ⟨he, ⟨kp', hd⟩, hk⟩
  exact ⟨he, go_mk hd (.inl rfl) (keeps_DS hk)⟩
theorem dk_off (h : DK w d F D) : Calls Try.prog 24 #[dp d] w (RetV (.bool D.off) w) := by
  obtain ⟨b, kv, kp, ks, vs, rfl, h⟩ := h; exact doff_any h
theorem dk_writes (h : DK w d F D) : Calls Try.prog 25 #[dp d] w (RetV (.int .i64 D.writes) w) := by
  obtain ⟨b, kv, kp, ks, vs, rfl, h⟩ := h; exact dwrites_any h
theorem dk_pending (h : DK w d F D) : Calls Try.prog 30 #[dp d] w (RetV (.int .i64 D.pend.length) w) := by
  obtain ⟨b, kv, kp, ks, vs, rfl, h⟩ := h; exact dpending_any h
theorem dk_shape (h : DK w d F D) : Calls Try.prog 36 #[dp d] w fun e w' => e = .returned (.tuple #[.int .i64 D.kept.length, .int .i64 D.size]) ∧ Keeps nowhere w w' := by
  obtain ⟨b, kv, kp, ks, vs, rfl, h⟩ := h; exact dshape_any h
/-- what Read returns -/
def DiskV.readE (D : DiskV) (s : Int) : Int := if D.off = true then 22 else if 0 ≤ s ∧ s < D.kept.length then 0 else 1
def DiskV.readL (D : DiskV) (s : Int) : List UInt8 := if D.off = true then [] else if 0 ≤ s ∧ s < D.kept.length then D.read s.toNat else []
theorem dk_read (s : Int) (h : DK w d F D) (ok : DOk D) : Calls Try.prog 29 #[dp d, .int .i64 s] w fun e w' => ∃ v g, e = .returned (.tuple #[v, .int .i64 (D.readE s)]) ∧ recB.Rd w' v g (D.readL s) ∧ Above w.heap.size g ∧ Keeps nowhere w w' := by
  obtain ⟨b, kv, kp, ks, vs, rfl, h⟩ := h
  unfold DiskV.readE DiskV.readL
  by_cases ho : D.off = true
  · rw [if_pos ho, if_pos ho]
    exact (dread_off s h ho).mono fun e w' ⟨he, hk⟩ => ⟨_, none, he, RecT.Rd.nil _ _, Above.none _, hk⟩
  · have ho' : D.off = false := by simpa using ho
    rw [if_neg ho, if_neg ho]
    by_cases hs : 0 ≤ s ∧ s < D.kept.length
    · rw [if_pos hs, if_pos hs]
      obtain ⟨x, rfl⟩ := Int.eq_ofNat_of_zero_le hs.1
      rw [Int.toNat_natCast]
      exact dread_ok x h ho' (by omega) (by have := ok.pend; omega) ok.size ok.kept
    · rw [if_neg hs, if_neg hs]
      exact (dread_arg s h ho' hs).mono fun e w' ⟨he, hk⟩ => ⟨_, none, he, RecT.Rd.nil _ _, Above.none _, hk⟩
theorem dk_bytes (h : DK w d F D) (ok : DOk D) (hp : 0 < D.kept.length) : Calls Try.prog 37 #[dp d] w fun e w' => ∃ v g, e = .returned v ∧ recB.Rd w' v g D.kept.flatten ∧ Above w.heap.size g ∧ Keeps nowhere w w' := by
  have hf := h.flat
  have := ok.all
  obtain ⟨b, kv, kp, ks, vs, rfl, h⟩ := h
  exact dbytes_any h hp (by omega)
theorem dk_twin (h : DK w d F D) (ok : DOk D) : Calls Try.prog 33 #[dp d] w fun e w' => ∃ t F', e = .returned (dp t) ∧ DK w' t F' D ∧ (∀ k, F' k → w.heap.size ≤ k) ∧ Keeps nowhere w w' := by
  obtain ⟨b, kv, kp, ks, vs, rfl, h⟩ := h
  refine (dtwin_any h (by have := ok.kept; omega) ok.keep).mono ?_
  rintro e w' ⟨r, he, t, b', kv', kp', ks', vs', rfl, hd, hF, hk⟩
  exact ⟨t, _, he, ⟨b', kv', kp', ks', vs', rfl, hd⟩, hF, hk⟩
theorem dk_new (n size : Nat) (w : World) (h1 : 1 ≤ n) (h2 : n ≤ 16384) (h3 : 64 ≤ size) (h4 : size ≤ 1024) :
    Calls Try.prog 21 #[.int .i64 n, .int .i64 size] w fun e w' => ∃ t F', e = .returned (.tuple #[dp t, .int .i64 0]) ∧ DK w' t F' (freshD n size) ∧ (∀ k, F' k → w.heap.size ≤ k) ∧ Keeps nowhere w w' := by
  refine (dnew_any n size w h1 h2 h3 h4).mono ?_
  rintro e w' ⟨r, he, t, b', kv', kp', ks', vs', rfl, hd, hF, hk⟩
  exact ⟨t, _, he, ⟨b', kv', kp', ks', vs', rfl, hd⟩, hF, hk⟩
end
/-- a disk of the call's own -/
structure DOwn (w0 w : World) (d : Nat) (F : Nat → Prop) (D : DiskV) : Prop where
  k : DK w d F D
  own : ∀ k, F k → w0.heap.size ≤ k
  kp : Keeps nowhere w0 w
section
variable {w0 w w' : World} {d : Nat} {F : Nat → Prop} {D D' : DiskV}
theorem DOwn.same (o : DOwn w0 w d F D) (hk : Keeps nowhere w w') : DOwn w0 w' d F D := ⟨o.k.same hk, o.own, o.kp.more hk⟩
theorem DOwn.fresh (o : DOwn w0 w d F D) (hk : Keeps F w w') : Keeps nowhere w0 w' := o.kp.trans hk fun k hk e => absurd (o.own k e) (by omega)
theorem DOwn.go (o : DOwn w0 w d F D) (h : DGo w d F w' D') : ∃ F', DOwn w0 w' d F' D' ∧ Keeps F w w' ∧ ∀ k, F' k → F k ∨ w.heap.size ≤ k := by
  obtain ⟨F', h1, h2, h3⟩ := h
  exact ⟨F', ⟨h1, fun k hk => (h3 k hk).elim (o.own k) (fun h => Nat.le_trans o.kp.size h), o.fresh h2⟩, h2, h3⟩
end
end Go.Proofs.Ytnddaildicmneaa
