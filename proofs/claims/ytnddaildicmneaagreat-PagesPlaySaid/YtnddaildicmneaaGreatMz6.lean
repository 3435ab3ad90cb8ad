/-
  Parts of the proof, joined in build order: PgU, Dk17, PgT, PgK, PgV, RecSt, PgX1, PgX2, PgX3, PgX4.
-/
import Derived.Test.YtnddaildicmneaaGreatMz5
import Derived.Deep.CutBlock
import Derived.Deep.CutRange
set_option linter.unusedVariables false
set_option linter.unusedSimpArgs false
/-
  pages: plain words: Format on a new disk.
-/
namespace Go.Proofs.YtnddaildicmneaaGreat
open Go.RowKit

theorem fresh_at {N z x : Nat} (hx : x < N) : (freshD N z).kept[x]? = some (zerosB z) := by
  show (List.replicate N (zerosB z))[x]? = _
  rw [List.getElem?_replicate, if_pos hx]
theorem newest_fresh {N z a n : Nat} (h : a + min 2 n ≤ N) : newestV (onB a n (freshD N z).size) (freshD N z) = (onB a n (freshD N z).size, false) := by
  have : ∀ i, i ≤ min 2 n → newV (onB a n (freshD N z).size) (freshD N z) i = (onB a n (freshD N z).size, false) := fun i => by
    induction i with
    | zero => intro _; rfl
    | succ i ih =>
      intro hi
      unfold newV
      rw [ih (by omega)]
      have e : (freshD N z).readL (((onB a n (freshD N z).size).a + i : Nat) : Int) = zerosB z := readL_at rfl rfl (fresh_at (by show a + i < N; omega))
      rw [e, headV_zero]
      rfl
  exact this _ (Nat.le_refl _)
structure Fmt (N z a n p : Nat) (D : DiskV) : Prop where
  w : Works D
  off : D.off = false
  pend : D.pend = []
  armed : D.armed = false
  keep : D.keep = []
  size : D.size = z
  klen : D.kept.length = N
  writes : D.writes ≤ p + 4
  lies : Lies D.kept ⟨a, n, z, 1, p, List.replicate p false, []⟩ (List.replicate p (zerosB (z - 16)))
  out : ∀ x, x < N → (x < a ∨ a + n ≤ x) → D.kept[x]? = some (zerosB z)
theorem fmt_fresh {N z a n p : Nat} (hz : 64 ≤ z) (hN : a + n ≤ N) (hf : fitsN n p) : (fmtR (freshD N z) a n p).1 = 0 ∧ Fmt N z a n p (fmtR (freshD N z) a n p).2 := by
  obtain ⟨f1, f2, f3⟩ := id hf
  have hkl : (freshD N z).kept.length = N := by simp [freshD]
  have hfit : Fits (freshD N z).kept.length (fmtB a n z p) := ⟨by rw [hkl]; exact hN, hf, hz, by simp [fmtB]⟩
  have hch : chOf (allE p) = (List.range p).map fun i => (i, []) := by simp [chOf, allE, Function.comp_def]
  have hkey : (chOf (allE p)).map (·.1) = List.range p := by rw [hch]; simp [Function.comp_def]
  have hks : ∀ q, q ∈ ksOf (chOf (allE p)) ↔ q < p := fun q => by rw [(ks_perm _).mem_iff, hkey, List.mem_range]
  have hnd : (ksOf (chOf (allE p))).Nodup := by rw [(ks_perm _).nodup_iff, hkey]; exact List.nodup_range
  have hlook : ∀ q, lookL (chOf (allE p)) q = [] := fun q => by
    unfold lookL
    cases hx : (chOf (allE p)).find? fun x => decide (x.1 = q) with
    | none => rfl
    | some y =>
      have h1 := List.mem_of_find?_eq_some hx
      rw [hch] at h1
      obtain ⟨j, -, rfl⟩ := List.mem_map.1 h1
      rfl
  have hkp : ∀ q ∈ ksOf (chOf (allE p)), q < (fmtB a n z p).pages := fun q hq => (hks q).1 hq
  have hlen : ∀ L ∈ (freshD N z).kept, L.length = (fmtB a n z p).size := fun L hL => by
    rw [List.eq_of_mem_replicate hL]; simp [zerosB, fmtB]
  have hrr : ∀ x ∈ wsOf (fmtB a n z p) (List.replicate p false) (ksOf (chOf (allE p))) (lookL (chOf (allE p))), x.1 < (freshD N z).kept.length ∧ x.2.length = (freshD N z).size := fun x hx => by
    have h1 := ws_rng hfit hkp hx
    have h2 : x.1 < a + n := h1.2.1
    exact ⟨by omega, h1.2.2⟩
  have hh1 : (hdOf (fmtB a n z p)).1 = a + 1 := rfl
  have hhl : (hdOf (fmtB a n z p)).2.length = (freshD N z).size := padL_len _ _
  have hw : Works (freshD N z) := ⟨rfl, fun e => by cases e⟩
  have h0 : (fmtR (freshD N z) a n p).1 = 0 := lay_unarmed rfl rfl rfl hrr (by show a + 1 < _; omega) hhl
  rcases lay_ends hw rfl hrr (by show (hdOf (fmtB a n z p)).1 < _; rw [hh1]; omega) hhl with ⟨-, q⟩ | ⟨e, -⟩
  · refine ⟨h0, ?_⟩
    change Laid (freshD N z) _ _ (fmtR (freshD N z) a n p).2 at q
    have hpl := hfit.places
    have hT : (fmtB a n z p).T ≤ 2 := hpl.1
    have hkl' : (fmtR (freshD N z) a n p).2.kept.length = N := by rw [q.kept, List.length_set, settleN_len, hkl]
    refine ⟨q.w, q.w.off, q.pend, q.armed, q.keep, q.size, hkl', ?_, ?_, fun x hx ho => ?_⟩
    · rw [q.writes]
      have : (wsOf (fmtB a n z p) (List.replicate p false) (ksOf (chOf (allE p))) (lookL (chOf (allE p)))).length = p + (fmtB a n z p).T := by
        unfold wsOf
        rw [List.length_append, List.length_map, List.length_map, List.length_range, (ks_perm _).length_eq, hkey, List.length_range]
      rw [this]
      show 0 + (p + _) + 1 ≤ _
      omega
    · rw [q.kept]
      refine laid_lies hfit hlen hkp hnd (by simp [fmtB]) (by show 0 + 1 < _; omega) ?_ (List.replicate p (zerosB (z - 16))) (by simp [fmtB]) ?_ ?_ []
      · intro L hL h hh
        have : L = zerosB z := by
          have e := fresh_at (N := N) (z := z) (show a + 0 % 2 < N by omega)
          exact Option.some.inj (hL.symm.trans e)
        rw [this, headV_zero] at hh
        cases hh
      · intro q v hq hv
        rw [hlook]
        rw [List.getElem?_replicate, if_pos ((hks q).1 hq)] at hv
        rw [← Option.some.inj hv]
        exact padL_nil z (z - 16) (by omega)
      · intro q v s hq hv hs
        rw [hks] at hq
        rw [List.getElem?_eq_none (by simp; omega)] at hv
        cases hv
    · have hne : (hdOf (fmtB a n z p)).1 ≠ x := by
        show a + 1 ≠ x
        omega
      rw [q.kept, List.getElem?_set_ne hne, ws_beside hfit hkp _ _ ho, fresh_at hx]
  · have e' : (fmtR (freshD N z) a n p).1 = 22 := e
    omega
end Go.Proofs.YtnddaildicmneaaGreat
/-
  disk: what is known.
-/
namespace Go.Proofs.YtnddaildicmneaaGreat
open Go.Proofs Go.RowKit Go.Sort Go.Maps

section
variable {X : Nat → Prop} {w0 w w' : World} {d : Nat} {F : Nat → Prop} {D D' : DiskV}
/-- the footprint behind a call -/
def Grew (w : World) (F F' : Nat → Prop) : Prop := ∀ k, F' k → F k ∨ w.heap.size ≤ k
theorem own_write (s : Int) (v : Value) (L : List UInt8) (o : DOwn X w0 w d F D) (ok : DOk D) (hr : recB.Row w v L) :
    Calls Tryz.prog 47 #[dp d, .int .i64 s, v] w fun e w' => e = .returned (.int .i64 (D.write s L).1) ∧ ∃ F', DOwn X w0 w' d F' (D.write s L).2 ∧ recB.Row w' v L ∧ Keeps F w w' ∧ Grew w F F' := by
  have hraw : ∀ k, v.ownBlock = some k → ¬ F k := fun k e hF => row_raw hr (.inl rfl) (o.k.notRaw k hF) e
  refine (dk_write s v _ L o.k ok hr.rd hraw).mono fun e w' ⟨he, hg⟩ => ?_
  obtain ⟨F', h1, h2, h3⟩ := o.go hg
  exact ⟨he, F', h1, hr.keep h2 hraw, h2, h3⟩
theorem own_cut (v : Value) (g : Option Nat) (keep : List Bool) (o : DOwn X w0 w d F D) (ok : DOk D) (hr : recBo.Rd w v g keep) (hg : ∀ k, g = some k → ¬ F k) :
    Calls Tryz.prog 15 #[dp d, v] w fun e w' => e = .returned (.tuple #[]) ∧ ∃ F', DOwn X w0 w' d F' (D.cut keep) ∧ Keeps F w w' ∧ Grew w F F' :=
  (dk_cut v g keep o.k ok hr hg).mono fun e w' ⟨he, hh⟩ => ⟨he, o.go hh⟩
theorem own_on (o : DOwn X w0 w d F D) : Calls Tryz.prog 17 #[dp d] w fun e w' => e = .returned (.tuple #[]) ∧ ∃ F', DOwn X w0 w' d F' D.on ∧ Keeps F w w' ∧ Grew w F F' :=
  (dk_on o.k).mono fun e w' ⟨he, hh⟩ => ⟨he, o.go hh⟩
theorem own_sync (o : DOwn X w0 w d F D) (ok : DOk D) : Calls Tryz.prog 49 #[dp d] w fun e w' => e = .returned (.int .i64 D.syncs.1) ∧ ∃ F', DOwn X w0 w' d F' D.syncs.2 ∧ Keeps F w w' ∧ Grew w F F' :=
  (dk_sync o.k ok).mono fun e w' ⟨he, hh⟩ => ⟨he, o.go hh⟩
theorem own_arm (n : Int) (v : Value) (g : Option Nat) (keep : List Bool) (o : DOwn X w0 w d F D) (hr : recBo.Rd w v g keep) (hl : keep.length ≤ 100000000) :
    Calls Tryz.prog 16 #[dp d, .int .i64 n, v] w fun e w' => e = .returned (.tuple #[]) ∧ ∃ F', DOwn X w0 w' d F' (D.arm n keep) ∧ Keeps F w w' ∧ Grew w F F' :=
  (dk_arm n v g keep o.k hr hl).mono fun e w' ⟨he, hh⟩ => ⟨he, o.go hh⟩
theorem own_read (s : Int) (o : DOwn X w0 w d F D) (ok : DOk D) : Calls Tryz.prog 35 #[dp d, .int .i64 s] w fun e w' => ∃ A c g, e = .returned (.tuple #[.slice A (D.readL s).length c, .int .i64 (D.readE s)]) ∧ recB.Rd w' (.slice A (D.readL s).length c) g (D.readL s) ∧ Above w.heap.size g ∧ DOwn X w0 w' d F D ∧ Keeps nowhere w w' :=
  (dk_read s o.k ok).mono fun e w' ⟨v, g, he, hr, ha, hk⟩ => by
    obtain ⟨A, c, rfl, -⟩ := id hr
    exact ⟨A, c, g, he, hr, ha, o.same hk, hk⟩
theorem own_shape (o : DOwn X w0 w d F D) : Calls Tryz.prog 43 #[dp d] w fun e w' => e = .returned (.tuple #[.int .i64 D.kept.length, .int .i64 D.size]) ∧ DOwn X w0 w' d F D ∧ Keeps nowhere w w' :=
  (dk_shape o.k).mono fun e w' ⟨he, hk⟩ => ⟨he, o.same hk, hk⟩
theorem own_bytes (o : DOwn X w0 w d F D) (ok : DOk D) (hp : 0 < D.kept.length) : Calls Tryz.prog 20 #[dp d] w fun e w' => ∃ A c g, e = .returned (.slice A D.kept.flatten.length c) ∧ recB.Rd w' (.slice A D.kept.flatten.length c) g D.kept.flatten ∧ Above w.heap.size g ∧ DOwn X w0 w' d F D ∧ Keeps nowhere w w' :=
  (dk_bytes o.k ok hp).mono fun e w' ⟨v, g, he, hr, ha, hk⟩ => by
    obtain ⟨A, c, rfl, -⟩ := id hr
    exact ⟨A, c, g, he, hr, ha, o.same hk, hk⟩
theorem own_new (n size : Nat) (hk : Keeps nowhere w0 w) (h1 : 1 ≤ n) (h2 : n ≤ 16384) (h3 : 64 ≤ size) (h4 : size ≤ 1024) :
    Calls Tryz.prog 6 #[.int .i64 n, .int .i64 size] w fun e w' => ∃ t F', e = .returned (.tuple #[dp t, .int .i64 0]) ∧ DOwn noX w0 w' t F' (freshD n size) ∧ (∀ k, F' k → w.heap.size ≤ k) ∧ Keeps nowhere w w' :=
  (dk_new n size w h1 h2 h3 h4).mono fun e w' ⟨t, F', he, h, hF, hk'⟩ => ⟨t, F', he, ⟨h, fun k hk2 => Nat.le_trans hk.size (hF k hk2), hk.more hk'⟩, hF, hk'⟩
end
/-- one byte of a row is set -/
theorem row_set {w : World} {q n c : Nat} {L : List UInt8} (h : recB.Row w (.slice (some ⟨q, 0, none⟩) n c) L) {i : Nat} (hi : i < n) (x : UInt8) :
    (∃ u, w.cell? ⟨q, i, none⟩ = some u) ∧ w.frozen? ⟨q, i, none⟩ = false ∧ recB.Row (w.setCell ⟨q, i, none⟩ (bv x)) (.slice (some ⟨q, 0, none⟩) n c) (L.set i x) ∧ Keeps (only q) w (w.setCell ⟨q, i, none⟩ (bv x)) := by
  obtain ⟨A, c', hv, -⟩ := h.form
  injection hv with _ hn _
  subst hn
  obtain ⟨h1, h2, h3⟩ := h.store hi x
  obtain ⟨h4, h5⟩ := h1 0 (by decide)
  have ew : w.setCells q (i * recB.n) (recB.cs x) = w.setCell ⟨q, i, none⟩ (bv x) := by show w.setCell ⟨q, i * 1, none⟩ _ = _; rw [Nat.mul_one]
  rw [ew] at h2 h3
  rw [Nat.add_zero, show i * recB.n = i from Nat.mul_one i] at h4 h5
  exact ⟨h4, h5, h2, h3⟩
def YesD (w : World) : Ending → World → Prop := fun e w' => e = .returned (.bool true) ∧ Keeps nowhere w w'
theorem rdB_at {w : World} {v : Value} {g : Option Nat} {L : List UInt8} (h : recB.Rd w v g L) (hp : 0 < L.length) : ∃ b o c, v = .slice (some ⟨b, o, none⟩) L.length c ∧ g = some b ∧ ∀ i x, L[i]? = some x → w.cell? ⟨b, o + i, none⟩ = some (bv x) := by
  obtain ⟨A, c, rfl, -, -, -, h3, -⟩ := h
  obtain ⟨b, o, rfl, hg, hc⟩ := h3 hp
  refine ⟨b, o, c, rfl, hg, fun i x hi => ?_⟩
  have := hc i x hi 0 (by decide)
  rw [show i * recB.n = i from Nat.mul_one i] at this
  simpa [recB] using this
def kX : List UInt8 := (zerosB 64).set 0 5
def kD1 : DiskV := ((freshD 4 64).write 1 kX).2
def kD2 : DiskV := (kD1.write 2 kX).2
def kD3 : DiskV := kD2.cut [true]
def kD4 : DiskV := kD3.on
theorem kt : ((freshD 4 64).write 1 kX).1 = 0 ∧ (kD1.write 2 kX).1 = 0 ∧ kD3.readE 1 = 22 ∧ kD3.readL 1 = [] ∧ kD4.readE 1 = 0 ∧ kD4.readL 1 = kX ∧ kD4.readE 2 = 0 ∧ kD4.readL 2 = zerosB 64 ∧ kD4.kept.length = 4 ∧ kD4.size = 64 ∧ kD4.writes = 2 ∧ kD4.kept.flatten.length = 256 := by
  refine ⟨?_, ?_, ?_, ?_, ?_, ?_, ?_, ?_, ?_, ?_, ?_, ?_⟩ <;> kernel_rfl
theorem kok : DOk (freshD 4 64) ∧ DOk kD1 ∧ DOk kD2 ∧ DOk kD3 ∧ DOk kD4 := by
  refine ⟨?_, ?_, ?_, ?_, ?_⟩ <;> exact ⟨by decide, by decide, by decide, by decide, by decide, by decide, by decide⟩
end Go.Proofs.YtnddaildicmneaaGreat
/-
  pages: a book on a disk of the call's own: what each method makes of both.
-/
namespace Go.Proofs.YtnddaildicmneaaGreat
open Go.Proofs Go.RowKit Go.Sort Go.Maps

theorem nodup_lt : ∀ (n : Nat) (l : List Nat), l.Nodup → (∀ x ∈ l, x < n) → l.length ≤ n
  | 0, l, _, h => by
    cases l with
    | nil => exact Nat.le_refl _
    | cons x l => exact absurd (h x (by simp)) (by omega)
  | n + 1, l, hn, h => by
    by_cases hm : n ∈ l
    · have h1 := nodup_lt n (l.erase n) (hn.erase n) (fun x hx => by
        have h2 := (hn.mem_erase_iff).1 hx
        have := h x h2.2
        have h3 := h2.1
        omega)
      rw [List.length_erase_of_mem hm] at h1
      omega
    · have h1 := nodup_lt n l hn (fun x hx => by
        have := h x hx
        have : x ≠ n := fun e => hm (e ▸ hx)
        omega)
      omega
theorem ChOk.le {B : BookV} (h : ChOk B) : B.changed.length ≤ B.pages := by
  have := nodup_lt B.pages (B.changed.map (·.1)) h.nd (fun x hx => by
    obtain ⟨y, hy, rfl⟩ := List.mem_map.1 hx
    exact h.rng y hy)
  simpa using this
/-- the plain side: `W`: the most writes so far, `G`: the most generations -/
structure PV (N W G : Nat) (D : DiskV) (B : BookV) (vals : List (List UInt8)) : Prop where
  lies : Lies D.kept B vals
  pend : D.pend = []
  size : D.size = 64
  bsz : B.size = 64
  klen : D.kept.length = N
  wr : D.writes ≤ W
  keep : D.keep.length ≤ 1000000
  arm : D.armed = true → 1 ≤ D.left ∧ D.left ≤ 9223372036854775807
  gen : B.gen ≤ G
  ch : ChOk B
  out : ∀ x, x < N → (x < B.a ∨ B.a + B.n ≤ x) → D.kept[x]? = some (zerosB 64)
section
variable {N W G : Nat} {D : DiskV} {B : BookV} {vals : List (List UInt8)}
theorem PV.ok (h : PV N W G D B vals) (hN : N ≤ 100000) (hG : G < 1000000) : BOk B := by
  have h1 := h.lies.f.rng
  have h2 := h.lies.f.f
  rw [h.klen] at h1
  exact ⟨by rw [h.bsz]; omega, by rw [h.bsz]; omega, by omega, h2.2.1, by have := h.gen; omega⟩
theorem PV.lok (h : PV N W G D B vals) (hN : N ≤ 100000) (hW : W < 1000000) : LOk D 8000 := by
  have hk := h.klen
  have hz := h.size
  exact ⟨by rw [h.pend]; simp, by omega, by omega, by rw [hz, hk]; omega, by have := h.wr; omega, h.arm, by have := h.keep; omega⟩
theorem PV.works (h : PV N W G D B vals) (ho : D.off = false) : Works D := ⟨ho, h.arm⟩
theorem PV.pages (h : PV N W G D B vals) : 1 ≤ B.pages ∧ B.pages ≤ 1024 := ⟨h.lies.f.f.1, h.lies.f.f.2.1⟩
/-- what only the book's changes are -/
theorem Lies.chg {K : List (List UInt8)} (h : Lies K B vals) (cg : List (Nat × List UInt8)) : Lies K { B with changed := cg } vals := ⟨⟨h.f.rng, h.f.f, h.f.z, h.f.slen⟩, h.len, h.vlen, h.head, h.other, h.tabs, h.page⟩
theorem PV.chg (h : PV N W G D B vals) {cg : List (Nat × List UInt8)} (hc : ChOk { B with changed := cg }) : PV N W G D { B with changed := cg } vals :=
  ⟨h.lies.chg cg, h.pend, h.size, h.bsz, h.klen, h.wr, h.keep, h.arm, h.gen, hc, h.out⟩
theorem ChOk.nil (B : BookV) : ChOk { B with changed := [] } := ⟨by simp, by simp, by simp⟩
/-- another disk with the same sectors -/
theorem PV.disk (h : PV N W G D B vals) {D' : DiskV} (h1 : D'.kept = D.kept) (h2 : D'.pend = []) (h3 : D'.size = D.size) (h4 : D'.writes = D.writes) (h5 : D'.keep.length ≤ 1000000) (h6 : D'.armed = true → 1 ≤ D'.left ∧ D'.left ≤ 9223372036854775807) : PV N W G D' B vals :=
  ⟨by rw [h1]; exact h.lies, h2, by rw [h3]; exact h.size, h.bsz, by rw [h1]; exact h.klen, by rw [h4]; exact h.wr, h5, h6, h.gen, h.ch, by rw [h1]; exact h.out⟩
theorem PV.cut (h : PV N W G D B vals) (keep : List Bool) : PV N W G (D.cut keep) B vals := by
  refine h.disk ?_ rfl rfl rfl (by simp [DiskV.cut]) (fun e => by cases e)
  show settleN _ D.pend D.kept D.pend.length = _
  rw [h.pend]; rfl
theorem PV.on (h : PV N W G D B vals) : PV N W G D.on B vals := h.disk rfl h.pend rfl rfl h.keep h.arm
theorem PV.arming (h : PV N W G D B vals) (n : Int) (hn : n ≤ 9223372036854775807) (keep : List Bool) (hl : keep.length ≤ 1000000) : PV N W G (D.arm n keep) B vals := by
  refine h.disk rfl h.pend rfl rfl hl (fun _ => ?_)
  show 1 ≤ max n 1 ∧ max n 1 ≤ _
  omega
theorem ws_len {B : BookV} {next : List Bool} {ks : List Nat} {ch : Nat → List UInt8} : (wsOf B next ks ch).length = ks.length + B.T := by simp [wsOf]
theorem PV.commit (h : PV N W G D B vals) (ho : D.off = false) (hG : G < 1000000) :
    ((commitR B D).1 = 0 ∧ PV N (W + 2000) (G + 1) (commitR B D).2 (commitB B D) (curV B vals) ∧ (commitR B D).2.off = false ∧ (commitB B D).changed = []) ∨
    ((commitR B D).1 = 22 ∧ PV N (W + 2000) (G + 1) (commitR B D).2 B vals ∧ (commitR B D).2.off = true ∧ commitB B D = B) := by
  have hw := h.works ho
  have hp1 := h.pages
  have hb := fun x hx => commit_beside h.lies hw h.pend (h.size.trans h.bsz.symm) h.ch (x := x) hx
  have hT : B.T ≤ 2 := h.lies.f.places.1
  have hcl := h.ch.le
  have hkl := ks_len B.changed
  have hg := h.gen
  have hwr := h.wr
  rcases commit_lies h.lies hw h.pend (h.size.trans h.bsz.symm) (by omega) h.ch with ⟨e, q, hl⟩ | ⟨e, q, eB, hl⟩
  · have eB : commitB B D = { B with gen := B.gen + 1, second := nextL B, changed := [] } := by unfold commitB; rw [if_pos e]
    refine .inl ⟨e, ?_, q.w.off, by rw [eB]⟩
    refine ⟨hl, q.pend, q.size.trans h.size, by rw [eB]; exact h.bsz, ?_, ?_, by rw [q.keep]; exact h.keep, q.w.arm, by rw [eB]; show B.gen + 1 ≤ _; omega, by rw [eB]; exact ⟨by simp, by simp, by simp⟩, fun x hx ho => ?_⟩
    · rw [q.kept, List.length_set, settleN_len, h.klen]
    · rw [q.writes, ws_len]; omega
    · rw [eB] at ho
      rw [hb x ho]
      exact h.out x hx ho
  · refine .inr ⟨e, ?_, q.off, eB⟩
    refine ⟨hl, q.pend, q.size.trans h.size, h.bsz, ?_, ?_, by rw [q.keep]; simp, fun e => (by rw [q.armed] at e; cases e), by omega, h.ch, fun x hx ho => ?_⟩
    · obtain ⟨i, kf, -, ek⟩ := q.kept
      rw [ek, settleN_len, h.klen]
    · have := q.writes
      rw [ws_len] at this
      omega
    · rw [hb x ho]
      exact h.out x hx ho
end
/-- the side of memory -/
structure PM (X : Nat → Prop) (w0 w : World) (d s : Nat) (F M : Nat → Prop) (D : DiskV) (B : BookV) : Prop where
  dk : DK X w d F D
  bp : BP X w s d M B
  ap : ∀ k, M k → ¬ F k
  own : ∀ k, F k ∨ M k → w0.heap.size ≤ k
  kp : Keeps nowhere w0 w
/-- a step of it -/
structure PStep (w : World) (F M : Nat → Prop) (w' : World) (F' M' : Nat → Prop) : Prop where
  kp : Keeps (fun k => F k ∨ M k) w w'
  g : ∀ k, F' k ∨ M' k → (F k ∨ M k) ∨ w.heap.size ≤ k
section
variable {X : Nat → Prop} {w0 w w' : World} {d s : Nat} {F M F' M' : Nat → Prop} {N W G : Nat} {D D' : DiskV} {B B' : BookV} {vals : List (List UInt8)}
theorem PM.same (h : PM X w0 w d s F M D B) (hk : Keeps nowhere w w') : PM X w0 w' d s F M D B := ⟨h.dk.same hk, h.bp.same hk, h.ap, h.own, h.kp.more hk⟩
theorem PStep.refl (w : World) (F M : Nat → Prop) : PStep w F M w F M := ⟨Keeps.refl _ _, fun _ e => .inl e⟩
theorem PStep.same (hk : Keeps nowhere w w') : PStep w F M w' F M := ⟨hk.mono (fun _ _ h => h.elim), fun _ e => .inl e⟩
theorem PStep.trans {w1 : World} {F1 M1 : Nat → Prop} (h : PStep w F M w1 F1 M1) (k : PStep w1 F1 M1 w' F' M') : PStep w F M w' F' M' :=
  ⟨h.kp.trans k.kp (fun b hb e => (h.g b e).elim id (fun e => by omega)), fun b e => (k.g b e).elim (h.g b) (fun e => .inr (Nat.le_trans h.kp.size e))⟩
theorem PM.fin (h : PM X w0 w d s F M D B) (hs : PStep w F M w' F' M') (h1 : DK X w' d F' D') (h2 : BP X w' s d M' B') (h3 : ∀ k, M' k → ¬ F' k) : PM X w0 w' d s F' M' D' B' :=
  ⟨h1, h2, h3, fun k e => (hs.g k e).elim (h.own k) (fun e => Nat.le_trans h.kp.size e), h.kp.trans hs.kp (fun b hb e => by have := h.own b e; omega)⟩
/-- the disk alone has changed -/
theorem PM.dgo (h : PM X w0 w d s F M D B) (hg : DGo X w d F w' D') : ∃ F', PM X w0 w' d s F' M D' B ∧ PStep w F M w' F' M := by
  obtain ⟨F', g1, g2, g3⟩ := hg
  have hst : PStep w F M w' F' M := ⟨g2.mono (fun _ _ e => .inl e), fun k e => e.elim (fun e => (g3 k e).imp .inl id) (fun e => .inl (.inr e))⟩
  refine ⟨F', h.fin hst g1 (h.bp.keepAll g2 (fun k hm hf => h.ap k hm hf) h.dk.notRaw) (fun k hm hf => (g3 k hf).elim (h.ap k hm) (fun e => by have := h.bp.lt k hm; omega)), hst⟩
/-- the book alone has changed -/
theorem PM.bgo (h : PM X w0 w d s F M D B) (hg : BGo X w s d M w' B') : ∃ M', PM X w0 w' d s F M' D B' ∧ PStep w F M w' F M' := by
  obtain ⟨M', g1, g2, g3⟩ := hg
  have hst : PStep w F M w' F M' := ⟨g2.mono (fun _ _ e => .inr e), fun k e => e.elim (fun e => .inl (.inl e)) (fun e => (g3 k e).imp .inr id)⟩
  refine ⟨M', h.fin hst (h.dk.keepAll g2 (fun k hf hm => h.ap k hm hf) h.bp.notRaw) g1 (fun k hm hf => (g3 k hm).elim (fun e => h.ap k e hf) (fun e => by have := h.dk.lt k hf; omega)), hst⟩
/-- what a step leaves of rows -/
theorem PStep.raw (hs : PStep w F M w' F' M') (h : PM X w0 w d s F M D B) {α : Type} {R : RecT α} {v : Value} {l : List α} (hr : R.Row w v l) (ht : R.t = 5 ∨ R.t = 4) : R.Row w' v l :=
  hr.keep hs.kp (fun b e hb => row_raw hr ht (hb.elim (h.dk.notRaw b) (h.bp.notRaw b)) e)
theorem pm_write (pg : Int) (A : Option Addr) (n cp : Nat) (g : Option Nat) (L : List UInt8) (h : PM X w0 w d s F M D B) (ok : BOk B) (hr : recB.Rd w (.slice A n cp) g L) (hc : B.changed.length ≤ 100000) :
    Calls Tryz.prog 9 #[bp s, .int .i64 pg, .slice A n cp] w fun e w' => e = .returned (.int .i64 (writeE B pg L)) ∧ ∃ M', PM X w0 w' d s F M' D (writeB B pg L) ∧ PStep w F M w' F M' :=
  (bwrite_any pg A n cp g L h.bp ok hr hc).mono fun e w' ⟨he, hg⟩ => ⟨he, h.bgo hg⟩
theorem pm_abort (h : PM X w0 w d s F M D B) : Calls Tryz.prog 13 #[bp s] w fun e w' => e = .returned (.tuple #[]) ∧ ∃ M', PM X w0 w' d s F M' D { B with changed := [] } ∧ PStep w F M w' F M' :=
  (babort_any h.bp).mono fun e w' ⟨he, hg⟩ => ⟨he, h.bgo hg⟩
theorem pm_commit (h : PM X w0 w d s F M D B) (pv : PV N W G D B vals) (ho : D.off = false) (hN : N ≤ 100000) (hW : W < 1000000) (hG : G < 1000000) :
    Calls Tryz.prog 12 #[bp s] w fun e w' => e = .returned (.int .i64 (commitR B D).1) ∧ ∃ F' M', PM X w0 w' d s F' M' (commitR B D).2 (commitB B D) ∧ PStep w F M w' F' M' := by
  have hp := pv.pages
  have hcl := pv.ch.le
  refine (bcommit_any h.dk h.bp h.ap (pv.ok hN hG) (by have := pv.gen; omega) (pv.lok hN hW) ho (pv.size.trans pv.bsz.symm) pv.lies.f.slen hp.1 pv.ch.rng (by omega)).mono ?_
  rintro e w' ⟨he, F', M', hb⟩
  have hst : PStep w F M w' F' M' := ⟨hb.kp, fun k e => e.elim (fun e => (hb.gf k e).imp .inl id) (fun e => (hb.gm k e).imp .inr id)⟩
  exact ⟨he, F', M', h.fin hst hb.dk hb.bp hb.ap, hst⟩
theorem pm_read (p : Nat) (h : PM X w0 w d s F M D B) (pv : PV N W G D B vals) (ho : D.off = false) (hN : N ≤ 100000) (hW : W < 1000000) (hG : G < 1000000) (hp : p < B.pages) :
    Calls Tryz.prog 22 #[bp s, .int .i64 p] w (RetRd w (((curV B vals)[p]?).getD [])) := by
  rw [read_lies pv.lies pv.pend ho hp, Option.getD_some]
  have hpl := pv.lies.f.places
  have hrn := pv.lies.f.rng
  exact breadp_any p h.dk h.bp (pv.ok hN hG) (pv.lok hN hW).ok ho (pv.size.trans pv.bsz.symm) hp pv.lies.f.slen (by have := (hpl.2.2.1 p (boolF B.second p) hp).2; omega) (fun x hx => by rw [pv.ch.len x hx, pv.bsz]; omega)
theorem pm_cut (v : Value) (g : Option Nat) (keep : List Bool) (h : PM X w0 w d s F M D B) (ok : DOk D) (hr : recBo.Rd w v g keep) (hg : ∀ k, g = some k → ¬ F k) :
    Calls Tryz.prog 15 #[dp d, v] w fun e w' => e = .returned (.tuple #[]) ∧ ∃ F', PM X w0 w' d s F' M (D.cut keep) B ∧ PStep w F M w' F' M :=
  (dk_cut v g keep h.dk ok hr hg).mono fun e w' ⟨he, hg⟩ => ⟨he, h.dgo hg⟩
theorem pm_on (h : PM X w0 w d s F M D B) : Calls Tryz.prog 17 #[dp d] w fun e w' => e = .returned (.tuple #[]) ∧ ∃ F', PM X w0 w' d s F' M D.on B ∧ PStep w F M w' F' M :=
  (dk_on h.dk).mono fun e w' ⟨he, hg⟩ => ⟨he, h.dgo hg⟩
theorem pm_arm (n : Int) (v : Value) (g : Option Nat) (keep : List Bool) (h : PM X w0 w d s F M D B) (hr : recBo.Rd w v g keep) (hl : keep.length ≤ 100000000) :
    Calls Tryz.prog 16 #[dp d, .int .i64 n, v] w fun e w' => e = .returned (.tuple #[]) ∧ ∃ F', PM X w0 w' d s F' M (D.arm n keep) B ∧ PStep w F M w' F' M :=
  (dk_arm n v g keep h.dk hr hl).mono fun e w' ⟨he, hg⟩ => ⟨he, h.dgo hg⟩
theorem pm_open (h : PM X w0 w d s F M D B) (pv : PV N W G D B vals) (ho : D.off = false) (hN : N ≤ 100000) (hW : W < 1000000) (hG : G < 1000000) (a n : Nat) (ha : a = B.a) (hn : n = B.n) :
    Calls Tryz.prog 18 #[dp d, .int .i64 a, .int .i64 n] w fun e w' => ∃ s' M', e = .returned (.tuple #[bp s', .int .i64 0]) ∧ PM X w0 w' d s' F M' D { B with changed := [] } ∧ Keeps nowhere w w' ∧ ∀ k, M' k → w.heap.size ≤ k := by
  subst ha hn
  have hz : D.size = B.size := pv.size.trans pv.bsz.symm
  have hol := open_lies pv.lies pv.pend ho (by have := pv.gen; omega) hz
  have hrn := pv.lies.f.rng
  have hfs := pv.lies.f.f
  refine (bopen_ok B.a B.n h.dk (pv.lok hN hW).ok (by rw [pv.size]; omega) ho (by have := hfs.2.2; omega) hrn hol.1 hol.2.1).mono ?_
  rintro e w' ⟨s', M', he, hd, hb, hM, hk⟩
  rw [hol.2.2] at hb
  exact ⟨s', M', he, ⟨hd, hb, fun k hm hf => by have := h.dk.lt k hf; have := hM k hm; omega, fun k e => e.elim (fun e => h.own k (.inl e)) (fun e => Nat.le_trans h.kp.size (hM k e)), h.kp.more hk⟩, hk, hM⟩
/-- Format on a new disk -/
theorem pm_format (N' a n p : Nat) (o : DOwn X w0 w d F (freshD N' 64)) (hN : a + n ≤ N') (hN2 : N' ≤ 100000) (hf : fitsN n p) :
    Calls Tryz.prog 7 #[dp d, .int .i64 a, .int .i64 n, .int .i64 p] w fun e w' => ∃ s F' M' D', e = .returned (.tuple #[bp s, .int .i64 0]) ∧ PM X w0 w' d s F' M' D' ⟨a, n, 64, 1, p, List.replicate p false, []⟩ ∧ PV N' 2000 1 D' ⟨a, n, 64, 1, p, List.replicate p false, []⟩ (List.replicate p (zerosB 48)) ∧ D'.off = false ∧ D'.armed = false ∧ D'.keep = [] ∧ (∀ k, F' k ∨ M' k → F k ∨ w.heap.size ≤ k) := by
  obtain ⟨f1, f2, f3⟩ := id hf
  have hkl : (freshD N' 64).kept.length = N' := by simp [freshD]
  obtain ⟨h0, hfm⟩ := fmt_fresh (N := N') (z := 64) (a := a) (n := n) (p := p) (by omega) hN hf
  have lok : LOk (freshD N' 64) 8000 := ⟨by simp [freshD], by simp [freshD], by rw [hkl]; omega, by rw [hkl]; show N' * 64 ≤ _; omega, by simp [freshD], fun e => (by cases e), by simp [freshD]⟩
  refine (bformat_ok a n p o.k lok (by simp [freshD]) rfl (by rw [hkl]; exact hN) hf (by rw [newest_fresh (by omega)]) h0).mono ?_
  rintro e w' ⟨s, F', M', he, hb⟩
  have hg : ∀ k, F' k ∨ M' k → F k ∨ w.heap.size ≤ k := fun k e => e.elim (fun e => hb.gf k e) (fun e => (hb.gm k e).elim (fun e => e.elim) .inr)
  refine ⟨s, F', M', _, he, ⟨hb.dk, hb.bp, hb.ap, fun k e => (hg k e).elim (o.own k) (fun e => Nat.le_trans o.kp.size e), o.kp.trans hb.kp (fun k hk e => e.elim (fun e => by have := o.own k e; omega) (fun e => e.elim))⟩, ?_, hfm.off, hfm.armed, hfm.keep, hg⟩
  exact ⟨hfm.lies, hfm.pend, hfm.size, rfl, hfm.klen, by have := hfm.writes; omega, by rw [hfm.keep]; simp, fun e => (by rw [hfm.armed] at e; cases e), by show 1 ≤ 1; omega, ⟨by simp, by simp, by simp⟩, hfm.out⟩
end
end Go.Proofs.YtnddaildicmneaaGreat
/-
  pages: what is known.
-/
namespace Go.Proofs.YtnddaildicmneaaGreat
open Go.Proofs Go.RowKit Go.Sort Go.Maps

theorem commitB_same (B : BookV) (D : DiskV) : (commitB B D).a = B.a ∧ (commitB B D).n = B.n ∧ (commitB B D).size = B.size ∧ (commitB B D).pages = B.pages := by
  unfold commitB
  split <;> exact ⟨rfl, rfl, rfl, rfl⟩
theorem commit_unarmed {N W G : Nat} {D : DiskV} {B : BookV} {vals : List (List UInt8)} (h : PV N W G D B vals) (ho : D.off = false) (ha : D.armed = false) : (commitR B D).1 = 0 := by
  have hks : ∀ p ∈ ksOf B.changed, p < B.pages := fun p hp => by
    obtain ⟨L, hL⟩ := ks_mem.1 hp
    exact h.ch.rng _ hL
  have hrn := h.lies.f.rng
  have hz := h.size.trans h.bsz.symm
  have hrr : ∀ x ∈ wsOf B (nextL B) (ksOf B.changed) (lookL B.changed), x.1 < D.kept.length ∧ x.2.length = D.size := fun x hx => by
    have := ws_rng h.lies.f hks hx
    exact ⟨by omega, by rw [hz]; exact this.2.2⟩
  have hpl := h.lies.f.places
  have hhd : (hdOf B).1 < D.kept.length := by show B.a + (B.gen + 1) % 2 < _; omega
  have hhl : (hdOf B).2.length = D.size := by rw [hz]; exact padL_len _ _
  exact lay_unarmed ho ha h.pend hrr hhd hhl
theorem row_of3 {w : World} {b : Nat} (h : Blk w b 4 #[.bool true, .bool true, .bool true]) : recBo.Row w (.slice (some ⟨b, 0, none⟩) 3 3) [true, true, true] :=
  RecT.Row.of_blk (R := recBo) (l := [true, true, true]) (cap := 3) (rest := []) (by simpa [RecT.cells, recBo] using h) (by decide) (by decide)
def kX8 : List UInt8 := (zerosB 48).set 0 9
def kB : BookV := ⟨0, 40, 64, 1, 3, List.replicate 3 false, []⟩
def kB2 : BookV := { kB with changed := [(0, kX8)] }
theorem kfit : fitsN 40 3 := by decide
theorem kw1 : writeE kB 0 kX8 = 0 ∧ writeB kB 0 kX8 = kB2 := by
  have h : writeOk kB 0 kX8 = true := by kernel_rfl
  unfold writeE writeB
  rw [if_pos h, if_pos h]
  exact ⟨rfl, rfl⟩
theorem kw2 {B : BookV} (hp : B.pages = 3) (hz : B.size = 64) (hc : B.changed = []) : writeE B 1 kX8 = 0 ∧ writeB B 1 kX8 = { B with changed := [(1, kX8)] } := by
  have h : writeOk B 1 kX8 = true := by
    unfold writeOk inP
    rw [hp, hz]; kernel_rfl
  unfold writeE writeB
  rw [if_pos h, if_pos h, hc]
  exact ⟨rfl, rfl⟩
theorem kcur (vals : List (List UInt8)) (hv : vals = List.replicate 3 (zerosB 48)) : curV kB2 vals = [kX8, zerosB 48, zerosB 48] := by rw [hv]; kernel_rfl
theorem kch : ChOk kB2 := ⟨by decide, by intro x hx; rw [List.mem_singleton.1 hx]; decide, by intro x hx; rw [List.mem_singleton.1 hx]; kernel_rfl⟩
theorem kch2 {B : BookV} (hp : B.pages = 3) (hz : B.size = 64) : ChOk { B with changed := [(1, kX8)] } := ⟨by simp, by intro x hx; rw [List.mem_singleton.1 hx]; show 1 < B.pages; omega, by intro x hx; rw [List.mem_singleton.1 hx]; show kX8.length = B.size - 16; rw [hz]; kernel_rfl⟩
theorem kks : (ksOf [(1, kX8)]).map (fun n : Nat => (n : Int)) = [1] := by kernel_rfl
theorem rdI_cell {w : World} {A : Option Addr} {n c : Nat} {g : Option Nat} {x : Int} (h : recI.Rd w (.slice A n c) g [x]) : ∃ b o, A = some ⟨b, o, none⟩ ∧ w.cell? ⟨b, o, none⟩ = some (.int .i64 x) := by
  obtain ⟨b, o, h1, h2⟩ := rdI_cl h (Keeps.refl nowhere w) (i := 0) (x := x) rfl
  exact ⟨b, o, h1, h2⟩
set_option maxRecDepth 20000 in
set_option maxHeartbeats 8000000 in
theorem known8 (w : World) : Calls Tryz.prog 4 #[] w (YesD w) := by
  have hxl : kX8.length = 48 := by kernel_rfl
  have Hxl := Lib.hid hxl
  clear hxl
  go_enter Tryz.func4, Tryz.ntmps4
  go_wp2_with fail
  refine (own_new 40 64 (Keeps.refl nowhere w) (by decide) (by decide) (by decide) (by decide)).mono ?_
  rintro e w1 ⟨d, F1, rfl, o1, -, -⟩
  have hf := pm_format 40 0 40 3 o1 (by omega) (by omega) kfit
  unfold dp at *
  have O1 := Lib.hid o1
  have Hf := Lib.hid hf
  clear o1 hf
  go_wp2_with fail
  refine (Hf.out).mono ?_
  rintro e w2 ⟨s, F2, M2, D2, rfl, pm2, pv2, ho2, ha2, hk2, -⟩
  clear Hf
  change PM noX w w2 d s F2 M2 D2 kB at pm2
  change PV 40 2000 1 D2 kB _ at pv2
  have hmost := bmost_any pm2.bp
  unfold bp at *
  have Pm2 := Lib.hid pm2
  have Pv2 := Lib.hid pv2
  have Ho2 := Lib.hid ho2
  have Ha2 := Lib.hid ha2
  have Hk2 := Lib.hid hk2
  have Hmost := Lib.hid hmost
  clear pm2 pv2 ho2 ha2 hk2 hmost
  go_wp2_with fail
  refine (Hmost.out).mono ?_
  rintro e w' ⟨rfl, rfl⟩
  clear Hmost
  go_wp2_with (at_make; refine wpList_make_bytesB _ rfl _ _ rfl 48 48 rfl rfl rfl (by omega) ?_)
  intro w3 hx3 hk3
  obtain ⟨q, hq⟩ : ∃ q, q = w2.heap.size := ⟨_, rfl⟩
  rw [← hq] at hx3
  simp only [← hq]
  obtain ⟨⟨u, cu⟩, fu, hx4, hk4⟩ := row_set hx3 (i := 0) (by decide) 9
  obtain ⟨w4, hw4⟩ : ∃ w4, w4 = w3.setCell ⟨q, 0, none⟩ (bv 9) := ⟨_, rfl⟩
  rw [← hw4] at hx4 hk4
  have hk24 : Keeps nowhere w2 w4 := hk3.trans hk4 (fun k hk e => by have e2 : k = q := e; omega)
  have pm4 := Pm2.out.same hk24
  change recB.Row w4 _ kX8 at hx4
  have hw4' : w4 = w3.setCell ⟨q, 0, none⟩ (.int .u8 9) := hw4
  have hc1 := pm_write 0 _ 48 48 _ kX8 pm4 (Pv2.out.ok (by omega) (by omega)) hx4.rd (by decide)
  rw [kw1.1, kw1.2] at hc1
  unfold bp at hc1
  clear hx3 hk3 hk4 hw4 hk24
  have Hx4 := Lib.hid hx4
  have Pm4 := Lib.hid pm4
  have Hq := Lib.hid hq
  have Hw4' := Lib.hid hw4'
  have Hc1 := Lib.hid hc1
  clear hx4 pm4 hq hw4' hc1
  go_upto_region 9 with fail
  rw [← Hw4'.out]
  clear cu fu
  go_wp2_with fail
  refine (Hc1.out).mono ?_
  rintro e w5 ⟨rfl, M5, pm5, st5⟩
  clear Hc1
  have hx5 := st5.raw Pm4.out Hx4.out (.inl rfl)
  have pv5 : PV 40 2000 1 D2 kB2 _ := Pv2.out.chg kch
  have hc2 := pm_commit pm5 pv5 Ho2.out (by omega) (by omega) (by omega)
  have hr0 := commit_unarmed pv5 Ho2.out Ha2.out
  rw [hr0] at hc2
  unfold bp at hc2
  have Pm5 := Lib.hid pm5
  have St5 := Lib.hid st5
  have Hx5 := Lib.hid hx5
  have Pv5 := Lib.hid pv5
  have Hc2 := Lib.hid hc2
  have Hr0 := Lib.hid hr0
  clear pm5 st5 hx5 pv5 hc2 hr0
  go_wp2_with fail
  refine (Hc2.out).mono ?_
  rintro e w6 ⟨rfl, F6, M6, pm6, st6⟩
  clear Hc2
  have hx6 := st6.raw Pm5.out Hx5.out (.inl rfl)
  obtain ⟨pv6, hch6, hoff6⟩ : PV 40 4000 2 (commitR kB2 D2).2 (commitB kB2 D2) [kX8, zerosB 48, zerosB 48] ∧ (commitB kB2 D2).changed = [] ∧ (commitR kB2 D2).2.off = false := by
    rcases Pv5.out.commit Ho2.out (by omega) with ⟨-, h1, h2, h3⟩ | ⟨h1, -⟩
    · rw [kcur _ rfl] at h1
      exact ⟨h1, h3, h2⟩
    · have := Hr0.out; omega
  obtain ⟨b1, b2, b3, b4⟩ := commitB_same kB2 D2
  obtain ⟨B6, hB6⟩ : ∃ B6, B6 = commitB kB2 D2 := ⟨_, rfl⟩
  obtain ⟨D6, hD6⟩ : ∃ D6, D6 = (commitR kB2 D2).2 := ⟨_, rfl⟩
  rw [← hB6] at b1 b2 b3 b4 hch6 pm6 pv6
  rw [← hD6] at pm6 pv6 hoff6
  have b1' : B6.a = 0 := b1
  have b2' : B6.n = 40 := b2
  have b3' : B6.size = 64 := b3
  have b4' : B6.pages = 3 := b4
  obtain ⟨k1, k2⟩ := kw2 b4' b3' hch6
  have hc3 := pm_write 1 _ 48 48 _ kX8 pm6 (pv6.ok (by omega) (by omega)) hx6.rd (by rw [hch6]; decide)
  rw [k1, k2] at hc3
  unfold bp at hc3
  have pv7 : PV 40 4000 2 D6 { B6 with changed := [(1, kX8)] } _ := pv6.chg (kch2 b4' b3')
  clear b1 b2 b3 b4 k1 k2
  have Pm6 := Lib.hid pm6
  have St6 := Lib.hid st6
  have Hx6 := Lib.hid hx6
  have Pv6 := Lib.hid pv6
  have Hc3 := Lib.hid hc3
  have HB6 := Lib.hid hB6
  have HD6 := Lib.hid hD6
  have Hch6 := Lib.hid hch6
  have Hoff6 := Lib.hid hoff6
  have Pv7 := Lib.hid pv7
  have B1' := Lib.hid b1'
  have B2' := Lib.hid b2'
  have B3' := Lib.hid b3'
  have B4' := Lib.hid b4'
  clear pm6 st6 hx6 pv6 hc3 hB6 hD6 hch6 hoff6 pv7 b1' b2' b3' b4'
  go_wp2_with fail
  refine (Hc3.out).mono ?_
  rintro e w7 ⟨rfl, M7, pm7, st7⟩
  clear Hc3
  have hcg := bchanged_any pm7.bp (by show 1 ≤ 100000; decide)
  unfold bp at hcg
  have Pm7 := Lib.hid pm7
  have St7 := Lib.hid st7
  have Hcg := Lib.hid hcg
  clear pm7 st7 hcg
  go_wp2_with fail
  refine (Hcg.out).mono ?_
  rintro e w8 ⟨Ac, gc, rfl, hrc, habc, hk8⟩
  clear Hcg
  simp only [List.length_cons, List.length_nil, Nat.zero_add, kks] at hrc ⊢
  have pm8 := Pm7.out.same hk8
  obtain ⟨bc, oc, hAc, hcc⟩ := rdI_cell hrc
  subst hAc
  have hgc : gc = some bc := by
    obtain ⟨A', c', hv, -, -, -, h3, -⟩ := id hrc
    obtain ⟨b', o', hA, hg, -⟩ := h3 (by decide)
    injection hv with e1 _ _
    rw [hA] at e1
    injection e1 with e1
    injection e1 with e1 _
    rw [hg, e1]
  have hb7 : w7.heap.size ≤ bc := habc bc hgc
  have hb8 : bc < w8.heap.size := by
    obtain ⟨-, -, -, -, -, hu, -⟩ := id hrc
    exact hu bc hgc
  have hnF7 : ∀ k, F6 k ∨ M7 k → k ≠ bc := fun k e h => by
    have := e.elim (Pm7.out.dk.lt k) (Pm7.out.bp.lt k)
    omega
  obtain ⟨w9, hw9⟩ : ∃ w9, w9 = w8.alloc (.cells #[.bool true, .bool true, .bool true] 4) := ⟨_, rfl⟩
  have hk9 : Keeps nowhere w8 w9 := by rw [hw9]; exact (Keeps.refl nowhere w8).alloc _
  have hb9 : Blk w9 w8.heap.size 4 #[.bool true, .bool true, .bool true] := by rw [hw9]; exact Blk.new _ _ _
  have pm9 := pm8.same hk9
  have hc4 := pm_cut _ _ [true, true, true] pm9 (Pv7.out.lok (by omega) (by omega)).ok (row_of3 hb9).rd (fun k e hF => by
    have e2 : w8.heap.size = k := by simpa [Value.ownBlock] using e
    have := pm8.dk.lt k hF; omega)
  unfold dp at hc4
  rw [hw9] at hc4
  have hcc9 : w9.cell? ⟨bc, oc, none⟩ = some (.int .i64 1) := by rw [hk9.cell (p := ⟨bc, oc, none⟩) hb8 (fun h => h)]; exact hcc
  have hb9' : bc < w9.heap.size := Nat.lt_of_lt_of_le hb8 hk9.size
  rw [hw9] at pm9 hcc9 hb9'
  clear hb9 hk9 hw9
  have Pm8 := Lib.hid pm8
  have Hrc := Lib.hid hrc
  have Pm9 := Lib.hid pm9
  have Hcc9 := Lib.hid hcc9
  have Hc4 := Lib.hid hc4
  have Hk8 := Lib.hid hk8
  have HnF7 := Lib.hid hnF7
  have Hb7 := Lib.hid hb7
  have Hb8 := Lib.hid hb8
  have Hcc := Lib.hid hcc
  have Hb9' := Lib.hid hb9'
  have Hgc := Lib.hid hgc
  have Habc := Lib.hid habc
  clear pm8 hrc pm9 hcc9 hc4 hk8 hnF7 hb7 hb8 hcc hb9' hgc habc
  go_wp2_with fail
  refine Hc4.out.mono ?_
  rintro e wa ⟨rfl, Fa, pma, sta⟩
  clear Hc4
  have pva := Pv7.out.cut [true, true, true]
  have hc5 := pm_on pma
  unfold dp at hc5
  have hcca : wa.cell? ⟨bc, oc, none⟩ = some (.int .i64 1) := by rw [sta.kp.cell (p := ⟨bc, oc, none⟩) Hb9'.out (fun h => HnF7.out bc h rfl)]; exact Hcc9.out
  have hnFa : ∀ k, Fa k ∨ M7 k → k ≠ bc := fun k e h => (sta.g k e).elim (fun e => HnF7.out k e h) (fun e => by have := Hb9'.out; omega)
  have hba : bc < wa.heap.size := Nat.lt_of_lt_of_le Hb9'.out sta.kp.size
  have Pma := Lib.hid pma
  have Sta := Lib.hid sta
  have Pva := Lib.hid pva
  have Hc5 := Lib.hid hc5
  have Hcca := Lib.hid hcca
  have HnFa := Lib.hid hnFa
  have Hba := Lib.hid hba
  clear pma sta pva hc5 hcca hnFa hba
  go_wp2_with fail
  refine (Hc5.out).mono ?_
  rintro e wb ⟨rfl, Fb, pmb, stb⟩
  clear Hc5
  have pvb := Pva.out.on
  have hc6 := pm_open pmb pvb rfl (by omega) (by omega) (by omega) 0 40 B1'.out.symm B2'.out.symm
  unfold dp bp at hc6
  have hccb : wb.cell? ⟨bc, oc, none⟩ = some (.int .i64 1) := by rw [stb.kp.cell (p := ⟨bc, oc, none⟩) Hba.out (fun h => HnFa.out bc h rfl)]; exact Hcca.out
  have hbb : bc < wb.heap.size := Nat.lt_of_lt_of_le Hba.out stb.kp.size
  have Pmb := Lib.hid pmb
  have Stb := Lib.hid stb
  have Pvb := Lib.hid pvb
  have Hc6 := Lib.hid hc6
  have Hccb := Lib.hid hccb
  have Hbb := Lib.hid hbb
  clear pmb stb pvb hc6 hccb hbb
  go_wp2_with fail
  refine (Hc6.out).mono ?_
  rintro e wc ⟨t, Mc, rfl, pmc, hkc, -⟩
  clear Hc6
  have pvc := Pvb.out.chg (ChOk.nil _)
  obtain ⟨Bc, hBc⟩ : ∃ Bc : BookV, Bc = { B6 with changed := [] } := ⟨_, rfl⟩
  obtain ⟨Dc, hDc⟩ : ∃ Dc, Dc = (D6.cut [true, true, true]).on := ⟨_, rfl⟩
  change PM noX w wc d t Fb Mc _ { B6 with changed := [] } at pmc
  change PV 40 4000 2 _ { B6 with changed := [] } _ at pvc
  have hoc : Dc.off = false := by rw [hDc]; rfl
  have hpc : Bc.pages = 3 := by rw [hBc]; exact B4'.out
  have hcur : curV Bc [kX8, zerosB 48, zerosB 48] = [kX8, zerosB 48, zerosB 48] := curV_nil (by rw [hBc])
  rw [← hBc, ← hDc] at pmc pvc
  have hc7 := pm_read 0 pmc pvc hoc (by omega) (by omega) (by omega) (by omega)
  rw [hcur] at hc7
  change Calls Tryz.prog _ _ _ (RetRd wc kX8) at hc7
  unfold bp RetRd at hc7
  rw [Hxl.out, show ((0 : Nat) : Int) = 0 from rfl] at hc7
  have Pmc := Lib.hid pmc
  have Hkc := Lib.hid hkc
  have Pvc := Lib.hid pvc
  have HBc := Lib.hid hBc
  have HDc := Lib.hid hDc
  have Hoc := Lib.hid hoc
  have Hpc := Lib.hid hpc
  have Hcur := Lib.hid hcur
  have Hc7 := Lib.hid hc7
  clear pmc hkc pvc hBc hDc hoc hpc hcur hc7
  go_wp2_with fail
  refine (Hc7.out).mono ?_
  rintro e wd ⟨Ad, cd, gd, rfl, hrd, -, hkd⟩
  clear Hc7
  have pmd := Pmc.out.same hkd
  have hc8 := pm_read 1 pmd Pvc.out Hoc.out (by omega) (by omega) (by omega) (by rw [Hpc.out]; omega)
  rw [Hcur.out] at hc8
  change Calls Tryz.prog _ _ _ (RetRd wd (zerosB 48)) at hc8
  unfold bp RetRd at hc8
  rw [show (zerosB 48).length = 48 from rfl, show ((1 : Nat) : Int) = 1 from rfl] at hc8
  have Pmd := Lib.hid pmd
  have Hkd := Lib.hid hkd
  have Hrd := Lib.hid hrd
  have Hc8 := Lib.hid hc8
  clear pmd hkd hrd hc8
  go_wp2_with fail
  refine (Hc8.out).mono ?_
  rintro e we ⟨Ae, ce, ge, rfl, hre, -, hke⟩
  clear Hc8
  have hrd' := Hrd.out.same hke
  have hpg := bpages_any ((Pmd.out.same hke).bp)
  rw [Hpc.out] at hpg
  unfold bp at hpg
  obtain ⟨b9, f9, c9', hv9, -, hx9⟩ := rdB_at hrd' (by decide)
  obtain ⟨ba, fa, ca', hva, -, hxa⟩ := rdB_at hre (by decide)
  injection hv9 with hA9 e9 hc9
  injection hva with hAa ea hca
  clear e9 ea
  subst hA9 hc9 hAa hca
  have x9 := hx9 0 9 rfl
  have xa := hxa 0 0 rfl
  simp [bv] at x9 xa
  have hkp := (Pmd.out.same hke).kp
  have hce : we.cell? ⟨bc, oc, none⟩ = some (.int .i64 1) := by
    rw [((Hkc.out.more Hkd.out).more hke).cell (p := ⟨bc, oc, none⟩) Hbb.out (fun h => h)]; exact Hccb.out
  clear hx9 hxa hrd'
  have Hpg := Lib.hid hpg
  have Hre := Lib.hid hre
  have Hke := Lib.hid hke
  have Hkp := Lib.hid hkp
  clear hpg hre hke hkp
  go_wp2_with fail
  refine (Hpg.out).mono ?_
  rintro e wf ⟨rfl, rfl⟩
  go_wp2_with fail
  go_ret
  exact ⟨rfl, Hkp.out⟩
end Go.Proofs.YtnddaildicmneaaGreat
/-
  pages: a page's bytes by a number, as the law writes them.
-/
namespace Go.Proofs.YtnddaildicmneaaGreat
open Go.Proofs Go.RowKit Go.Sort Go.Maps

def pageL (v : Nat) : List UInt8 := (((zerosB 48).set 0 (UInt8.ofNat v)).set 1 (UInt8.ofNat (v / 256))).set 47 (UInt8.ofNat v)
theorem pageL_len (v : Nat) : (pageL v).length = 48 := by simp [pageL, zerosB]
theorem bv_ofNat (v : Nat) : bv (UInt8.ofNat v) = .int .u8 ((v % 256 : Nat) : Int) := by simp [bv]
set_option maxRecDepth 20000 in
set_option maxHeartbeats 4000000 in
theorem page_any (v : Nat) (w : World) (hv : v < 65536) : Calls Tryz.prog 8 #[.int .i64 48, .int .u16 v] w fun e w' => e = .returned (.string (strOf (pageL v))) ∧ Keeps nowhere w w' := by
  have e1 : IntKind.u8.wrap (v : Int) = ((v % 256 : Nat) : Int) := by rw [IntKind.wrap_u8']; omega
  have e1b : (v : Int) % 256 = ((v % 256 : Nat) : Int) := by omega
  have e2 : (v : Int) / 2 ^ (8 : Nat) = ((v / 256 : Nat) : Int) := by omega
  have e2b : (v : Int) / 256 = ((v / 256 : Nat) : Int) := by omega
  have e3 : IntKind.u16.wrap ((v / 256 : Nat) : Int) = ((v / 256 : Nat) : Int) := by rw [IntKind.wrap_u16]; omega
  have e4 : IntKind.u8.wrap ((v / 256 : Nat) : Int) = ((v / 256 % 256 : Nat) : Int) := by rw [IntKind.wrap_u8']; omega
  obtain ⟨x, hx⟩ : ∃ x, x = v % 256 := ⟨_, rfl⟩
  obtain ⟨y, hy⟩ : ∃ y, y = v / 256 := ⟨_, rfl⟩
  obtain ⟨y2, hy2⟩ : ∃ y2, y2 = v / 256 % 256 := ⟨_, rfl⟩
  have hyy : y2 = y := by omega
  rw [← hx] at e1 e1b
  rw [← hy2] at e4
  rw [← hy] at e2 e2b e3 e4
  have Hx := Lib.hid hx
  have Hy := Lib.hid hy
  have Hy2 := Lib.hid hy2
  have Hyy := Lib.hid hyy
  clear hx hy hy2 hyy
  go_enter Tryz.func8, Tryz.ntmps8
  go_wp2_with (at_make; refine wpList_make_bytesB _ rfl _ _ rfl 48 48 rfl rfl rfl (by omega) ?_)
  intro w2 hx2 hk2
  obtain ⟨q, hq⟩ : ∃ q, q = w.heap.size := ⟨_, rfl⟩
  rw [← hq] at hx2
  simp only [← hq]
  obtain ⟨⟨u2, cu2⟩, fu2, hx3, hk3⟩ := row_set hx2 (i := 0) (by decide) (UInt8.ofNat v)
  rw [bv_ofNat, ← Hx.out] at hx3 hk3
  obtain ⟨w3, hw3⟩ : ∃ w3, w3 = w2.setCell ⟨q, 0, none⟩ (.int .u8 x) := ⟨_, rfl⟩
  rw [← hw3] at hx3 hk3
  have hk03 : Keeps nowhere w w3 := hk2.trans hk3 (fun k hk e => by have e2 : k = q := e; omega)
  clear hk2 hk3 hx2
  have Hx3 := Lib.hid hx3
  have Hk03 := Lib.hid hk03
  have Hq := Lib.hid hq
  have Hw3 := Lib.hid hw3
  clear hx3 hk03 hq hw3
  go_upto_region 3 with fail
  rw [← Hw3.out]
  clear cu2 fu2
  obtain ⟨⟨u3, cu3⟩, fu3, hx4, hk4⟩ := row_set Hx3.out (i := 1) (by decide) (UInt8.ofNat (v / 256))
  rw [bv_ofNat, ← Hy2.out, Hyy.out] at hx4 hk4
  obtain ⟨w4, hw4⟩ : ∃ w4, w4 = w3.setCell ⟨q, 1, none⟩ (.int .u8 y) := ⟨_, rfl⟩
  rw [← hw4] at hx4 hk4
  have hqw : w.heap.size ≤ q := by rw [Hq.out]; exact Nat.le_refl _
  have hk04 : Keeps nowhere w w4 := Hk03.out.trans hk4 (fun k hk e => by have e2 : k = q := e; omega)
  clear hk4
  have hyy3 := Hyy.out
  subst hyy3
  have Hx4 := Lib.hid hx4
  have Hk04 := Lib.hid hk04
  have Hw4 := Lib.hid hw4
  have Hqw := Lib.hid hqw
  clear hx4 hk04 hw4 hqw
  go_upto_region 4 with fail
  rw [← Hw4.out]
  clear cu3 fu3
  obtain ⟨⟨u4, cu4⟩, fu4, hx5, hk5⟩ := row_set Hx4.out (i := 47) (by decide) (UInt8.ofNat v)
  rw [bv_ofNat, ← Hx.out] at hx5 hk5
  obtain ⟨w5, hw5⟩ : ∃ w5, w5 = w4.setCell ⟨q, 47, none⟩ (.int .u8 x) := ⟨_, rfl⟩
  rw [← hw5] at hx5 hk5
  have hk05 : Keeps nowhere w w5 := Hk04.out.trans hk5 (fun k hk e => by have e2 : k = q := e; have := Hqw.out; omega)
  clear hk5
  change recB.Row w5 _ (pageL v) at hx5
  have hcv := conv_str _ _ (pageL v) w5 (rd_ofB hx5.rd (by rw [pageL_len]; omega))
  have Hx5 := Lib.hid hx5
  have Hk05 := Lib.hid hk05
  have Hw5 := Lib.hid hw5
  clear hx5 hk05 hw5
  go_upto_region 5 with fail
  rw [← Hw5.out]
  clear cu4 fu4
  go_wp2_with fail
  go_ret
  exact ⟨rfl, Hk05.out⟩
end Go.Proofs.YtnddaildicmneaaGreat
/-
  Rows of strings.
-/
namespace Go.Proofs.YtnddaildicmneaaGreat
open Go.RowKit
def recStr : RecT (List UInt8) := ⟨9, 1, fun L => [.string (strOf L)], fun _ => rfl, fun _ u hu => by rw [List.mem_singleton.1 hu]; rfl, by decide⟩
theorem infoStr : (Tryz.prog.info? 9).map (fun i => (i.zero, i.size, i.bytes)) = some (some (.string ⟨#[]⟩), 1, 16) := by kernel_rfl
def NotS (w : World) (k : Nat) : Prop := ∀ cs T fr, w.heap[k]? = some (.cells cs T fr) → T ≠ 9
theorem row_notS {w : World} {v : Value} {l : List (List UInt8)} (h : recStr.Row w v l) {k : Nat} (hk : NotS w k) : v.ownBlock ≠ some k := by
  intro e
  rcases h.blk with ⟨rfl, -⟩ | ⟨b', c, rest, rfl, hb2, -⟩
  · simp [Value.ownBlock] at e
  · simp only [Value.ownBlock, Option.some.injEq] at e
    subst e
    exact hk _ _ _ hb2 rfl
theorem notS_blk {w : World} {q : Nat} {T : TypeId} {cs : Array Value} (h : Blk w q T cs) (h1 : T ≠ 9) : NotS w q := fun cs2 T2 fr hh => by
  unfold Blk at h
  rw [h] at hh
  injection hh with hh
  injection hh with _ hh
  rw [← hh]; exact h1
theorem setSt {w : World} {b n cap : Nat} {L : List (List UInt8)} (h : recStr.Row w (.slice (some ⟨b, 0, none⟩) n cap) L) (hn : n = L.length) {i : Nat} (hi : i < n) (x : List UInt8) :
    (∃ u, w.cell? ⟨b, i, none⟩ = some u) ∧ w.frozen? ⟨b, i, none⟩ = false ∧ recStr.Row (w.setCell ⟨b, i, none⟩ (.string (strOf x))) (.slice (some ⟨b, 0, none⟩) n cap) (L.set i x) ∧ Keeps (only b) w (w.setCell ⟨b, i, none⟩ (.string (strOf x))) := by
  subst hn
  obtain ⟨h1, h2, h3⟩ := h.store hi x
  obtain ⟨h4, h5⟩ := h1 0 (by decide)
  have ew : w.setCells b (i * recStr.n) (recStr.cs x) = w.setCell ⟨b, i, none⟩ (.string (strOf x)) := by show w.setCell ⟨b, i * 1, none⟩ _ = _; rw [Nat.mul_one]
  rw [ew] at h2 h3
  rw [Nat.add_zero, show i * recStr.n = i from Nat.mul_one i] at h4 h5
  exact ⟨h4, h5, h2, h3⟩
theorem rdSt_cell {w : World} {A : Option Addr} {n c : Nat} {g : Option Nat} {L : List (List UInt8)} (h : recStr.Rd w (.slice A n c) g L) {i : Nat} {x : List UInt8} (hx : L[i]? = some x) : ∃ b o, A = some ⟨b, o, none⟩ ∧ w.cell? ⟨b, o + i, none⟩ = some (.string (strOf x)) := by
  obtain ⟨A', c', hv, -, -, -, h3, -⟩ := h
  injection hv with h1 _ _
  obtain ⟨b, o, hA, -, hc⟩ := h3 (by have := (List.getElem?_eq_some_iff.1 hx).1; omega)
  refine ⟨b, o, h1.trans hA, ?_⟩
  have := hc i x hx 0 (by decide)
  rw [show i * recStr.n = i from Nat.mul_one i] at this
  simpa [recStr] using this
end Go.Proofs.YtnddaildicmneaaGreat
/-
  pages: the play: rows of pages as strings; with, shows.
-/
namespace Go.Proofs.YtnddaildicmneaaGreat
open Go.Proofs Go.RowKit Go.Sort Go.Maps

section
variable {X : Nat → Prop} {w0 w w' : World} {d s : Nat} {F M F' M' : Nat → Prop} {N W G : Nat} {D D' : DiskV} {B B' : BookV} {vals : List (List UInt8)}
theorem PM.notS (h : PM X w0 w d s F M D B) : ∀ k, F k ∨ M k → NotS w k := by
  rintro k (e | e)
  · obtain ⟨b, kv, kp, ks, vs, rfl, h2, -⟩ := h.dk
    rcases e with rfl | rfl | e
    · exact notS_blk h2.box (by decide)
    · intro cs T fr hk
      obtain ⟨D, ⟨es, clock, hb2, -⟩, -⟩ := h2.map.own
      rw [hk] at hb2
      cases hb2
    · rcases h2.kept.blk with ⟨rfl, -⟩ | ⟨b', c, rest, rfl, hb2, -⟩
      · simp [Value.ownBlock] at e
      · simp only [Value.ownBlock, Option.some.injEq] at e
        subst e
        exact notS_blk hb2 (by decide)
  · obtain ⟨c, sv, ce, rfl, h2, -⟩ := h.bp
    rcases e with rfl | rfl
    · exact notS_blk h2.box (by decide)
    · intro cs T fr hk
      obtain ⟨D, ⟨es, clock, hb2, -⟩, -⟩ := h2.map.own
      rw [hk] at hb2
      cases hb2
theorem PStep.str (hs : PStep w F M w' F' M') (h : PM X w0 w d s F M D B) {v : Value} {l : List (List UInt8)} (hr : recStr.Row w v l) : recStr.Row w' v l :=
  hr.keep hs.kp (fun b e hb => row_notS hr (h.notS b hb) e)
set_option maxHeartbeats 4000000 in
theorem with_any (A : Option Addr) (n c : Nat) (g : Option Nat) (l : List (List UInt8)) (i : Nat) (x : List UInt8) (w : World) (hr : recStr.Rd w (.slice A n c) g l) (hi : i < l.length) (hl : l.length ≤ 1000000) :
    Calls Tryz.prog 11 #[.slice A n c, .int .i64 i, .string (strOf x)] w fun e w' => ∃ v, e = .returned v ∧ recStr.Row w' v (l.set i x) ∧ Above w.heap.size v.ownBlock ∧ Keeps nowhere w w' := by
  have hn : n = l.length := by obtain ⟨_, _, hv, -⟩ := id hr; injection hv
  have hka : Keeps nowhere w (w.alloc (.cells #[] 9)) := (Keeps.refl nowhere w).alloc _
  have hE := RecT.Row.empty recStr w
  have hrd := hr.same hka
  have hlb : ([] : List (List UInt8)).length + l.length ≤ 100000000 := by simp; omega
  have Hka := Lib.hid hka
  have HE := Lib.hid hE
  have Hrd := Lib.hid hrd
  have Hlb := Lib.hid hlb
  have Hr := Lib.hid hr
  have Hn := Lib.hid hn
  clear hka hE hrd hlb hr hn
  go_enter Tryz.func11, Tryz.ntmps11
  go_wp2_with (at_builtin; go_must (refine RecT.wpList_append (R := recStr) Tryz.underlying32 infoStr rfl (by decide) rfl (.tmp 8) (.tmp 9) rfl _ [] rfl HE.out _ _ l rfl Hrd.out Hlb.out ?_))
  intro v1 w1 hr1 hk1 hf1
  have hk01 : Keeps nowhere w w1 := Hka.out.trans hk1 (fun b hb e => by
    have e2 : w.heap.size = b := by simpa [Value.ownBlock] using e
    omega)
  have hab : Above w.heap.size v1.ownBlock := fun b hb => (hf1 b hb).elim (fun e => by
    have e2 : w.heap.size = b := by simpa [Value.ownBlock] using e
    omega) (fun e => by omega)
  clear hk1 hf1
  obtain ⟨q, cp, rfl⟩ : ∃ q cp, v1 = .slice (some ⟨q, 0, none⟩) n cp := by
    rcases hr1.blk with ⟨-, e⟩ | ⟨q, cp, rst, e, -⟩
    · rw [e] at hi; simp at hi
    · exact ⟨q, cp, by rw [e, Hn.out]⟩
  obtain ⟨⟨u, cu⟩, fu, hr2, hk2⟩ := setSt hr1 Hn.out (i := i) (by have := Hn.out; omega) x
  have hiN : (i : Int) < (n : Int) := by have := Hn.out; omega
  have hi0 : (0 : Int) ≤ (i : Int) := by omega
  have hkw : Keeps nowhere w (w1.setCell ⟨q, i, none⟩ (.string (strOf x))) := hk01.trans hk2 (fun b hb e => by have e2 : b = q := e; have := hab q rfl; omega)
  clear hk2 hi
  have Hr1 := Lib.hid hr1
  have Hk01 := Lib.hid hk01
  have Hab := Lib.hid hab
  have Hr2 := Lib.hid hr2
  have Hkw := Lib.hid hkw
  clear hr1 hk01 hab hr2 hkw
  go_wp2_with fail
  go_ret
  exact ⟨_, rfl, Hr2.out, Hab.out, Hkw.out⟩
set_option maxRecDepth 20000 in
set_option maxHeartbeats 8000000 in
theorem shows_any (h : PM X w0 w d s F M D B) (pv : PV N W G D B vals) (ho : D.off = false) (hN : N ≤ 100000) (hW : W < 1000000) (hG : G < 1000000) (A : Option Addr) (n c : Nat) (g : Option Nat) (l : List (List UInt8)) (hr : recStr.Rd w (.slice A n c) g l) (hcl : ∀ x ∈ curV B vals, x.length = 48) :
    Calls Tryz.prog 19 #[bp s, .slice A n c] w fun e w' => e = .returned (.bool (decide (curV B vals = l))) ∧ Keeps nowhere w w' := by
  have hn : n = l.length := by obtain ⟨_, _, hv, -⟩ := id hr; injection hv
  have hpg := bpages_any h.bp
  have hp := pv.pages
  obtain ⟨K, hK⟩ : ∃ K, K = B.pages := ⟨_, rfl⟩
  obtain ⟨cur, hcur⟩ : ∃ cur, cur = curV B vals := ⟨_, rfl⟩
  have hkl : cur.length = K := by rw [hcur, curV_len, pv.lies.vlen, hK]
  have hread := fun (j : Nat) (hj : j < K) (w8 : World) (hk : Keeps nowhere w w8) => pm_read j (h.same hk) pv ho hN hW hG (by rw [← hK]; exact hj)
  rw [← hcur] at hread hcl ⊢
  rw [← hK] at hpg hp
  unfold bp at *
  by_cases hpn : K = n
  · have e1 : ((K : Int) != (n : Int)) = false := by simp; omega
    obtain ⟨r, hrr⟩ : ∃ r, r = decide (cur = l) := ⟨_, rfl⟩
    rw [← hrr]
    subst hpn
    have Hread := Lib.hid hread
    have Hpg := Lib.hid hpg
    have Hn := Lib.hid hn
    have Hkl := Lib.hid hkl
    have Hcur := Lib.hid hcur
    have Hcl := Lib.hid hcl
    have HK := Lib.hid hK
    have Hr := Lib.hid hr
    have Hrr := Lib.hid hrr
    clear hread hpg hn hkl hcur hcl hK hr hrr
    go_enter Tryz.func19, Tryz.ntmps19
    go_wp2_with fail
    refine Hpg.out.mono ?_
    rintro e w' ⟨rfl, rfl⟩
    go_upto_region 4 with fail
    go_loopw [5] (fun iv wr => ∃ i : Nat, iv = .int .i64 i ∧ i ≤ K ∧ (∀ j, j < i → cur[j]? = l[j]?) ∧ Keeps nowhere w wr) (fun iv _ => K - (intOf iv).toNat)
    case atStart => exact ⟨0, rfl, Nat.zero_le _, fun j hj => absurd hj (by omega), Keeps.refl _ _⟩
    case round =>
      obtain ⟨i, rfl, hi, heq, hkr⟩ := hrel
      by_cases hlt : i < K
      · have hltI : (i : Int) < K := by omega
        have hi0 : (0 : Int) ≤ (i : Int) := by omega
        have hi1 : IntKind.i64.wrap ((i : Int) + 1) = i + 1 := IntWalk.i64_in _ (by omega)
        obtain ⟨x, hx⟩ : ∃ x, cur[i]? = some x := ⟨_, List.getElem?_eq_getElem (by rw [Hkl.out]; exact hlt)⟩
        obtain ⟨y, hy⟩ : ∃ y, l[i]? = some y := ⟨_, List.getElem?_eq_getElem (by rw [← Hn.out]; exact hlt)⟩
        have hxl : x.length = 48 := Hcl.out x (List.mem_of_getElem? hx)
        have hrj := Hread.out i hlt wr hkr
        rw [hx, Option.getD_some] at hrj
        unfold RetRd at hrj
        rw [hxl] at hrj
        have Hrj := Lib.hid hrj
        have Hkr := Lib.hid hkr
        have Heq := Lib.hid heq
        have Hx := Lib.hid hx
        have Hy := Lib.hid hy
        have Hxl := Lib.hid hxl
        clear hrj hkr heq hx hy hxl
        go_wp2_with fail
        refine Hrj.out.mono ?_
        rintro e w9 ⟨A9, c9, g9, rfl, hr9, -, hk9⟩
        have hk09 := Hkr.out.more hk9
        obtain ⟨b1, o1, hA1, hc1⟩ := rdSt_cell (Hr.out.same (hk09.drew)) Hy.out
        subst hA1
        have q4 : ∀ w', Keeps nowhere w9.drew w' → (convert 33 9 (.slice A9 48 c9)).run Tryz.prog w' = .ok (.string (strOf x)) w' := fun w' e => by
          have h1 := rd_ofB (hr9.same ((Keeps.refl nowhere w9).drew.more e)) (by rw [Hxl.out]; omega)
          exact conv_str _ _ x w' h1
        by_cases hxy : x = y
        · have hne : ((strOf x).toList == (strOf y).toList) = true := by rw [hxy]; simp
          have Hxy := Lib.hid hxy
          have Hr9 := Lib.hid hr9
          have Hk9 := Lib.hid hk9
          have Hk09 := Lib.hid hk09
          clear hxy hr9 hk9 hk09
          go_wp2_with fail
          refine wp_region_script [3, 4, 5, 6, 7, 9, 10] [4] [.es [0, 1, 2] false, .ps [3], .fs [4], .ps [5, 6, 7], .es [8] true, .ps [9, 10]] (Keeps nowhere w9.drew) rfl (by kernel_rfl) ?_
          refine wpS_es rfl fun K hK => ?_
          have HK := Lib.hid hK
          clear hK
          simp only [List.map_cons, List.map_nil, Option.getD_some, List.getElem?_toArray, List.getElem?_cons_zero, List.getElem?_cons_succ]
          go_wp2_with fail
          refine HK.out _ _ (fun h => by cases h) ?_
          clear HK K
          refine wpS_ps rfl fun K hK => ?_
          simp only [List.map_cons, List.map_nil, Option.getD_some, List.getElem?_toArray, List.getElem?_cons_zero, List.getElem?_cons_succ]
          iterate 1 (first | (apply quietO_cons _ rfl; (intro w' _; go_simp; rfl)) | apply quietO_skip rfl)
          refine hK _ ?_
          clear hK K
          simp only [Act.put, List.setIfInBounds_toArray, List.set_cons_zero, List.set_cons_succ]
          refine wpS_fs rfl (Keeps.refl _ _) fun K hK => ?_
          simp only [List.map_cons, List.map_nil, Option.getD_some, List.getElem?_toArray, List.getElem?_cons_zero, List.getElem?_cons_succ]
          iterate 1 (first | (apply quietO_cons _ rfl; (intro w' hs; have c_0 := q4 w' hs; go_simp; rfl)) | apply quietO_skip rfl)
          refine hK _ ?_
          clear hK K
          simp only [Act.put, List.setIfInBounds_toArray, List.set_cons_zero, List.set_cons_succ]
          refine wpS_ps rfl fun K hK => ?_
          simp only [List.map_cons, List.map_nil, Option.getD_some, List.getElem?_toArray, List.getElem?_cons_zero, List.getElem?_cons_succ]
          iterate 3 (first | (apply quietO_cons _ rfl; (intro w' _; go_simp; rfl)) | apply quietO_skip rfl)
          refine hK _ ?_
          clear hK K
          simp only [Act.put, List.setIfInBounds_toArray, List.set_cons_zero, List.set_cons_succ]
          refine wpS_es rfl fun K hK => ?_
          have HK := Lib.hid hK
          clear hK
          simp only [List.map_cons, List.map_nil, Option.getD_some, List.getElem?_toArray, List.getElem?_cons_zero, List.getElem?_cons_succ]
          go_wp2_with fail
          refine HK.out _ _ (fun _ => Keeps.refl _ _) ?_
          clear HK K
          refine wpS_ps rfl fun K hK => ?_
          simp only [List.map_cons, List.map_nil, Option.getD_some, List.getElem?_toArray, List.getElem?_cons_zero, List.getElem?_cons_succ]
          iterate 2 (first | (apply quietO_cons _ rfl; (intro w' _; go_simp; rfl)) | apply quietO_skip rfl)
          refine hK _ ?_
          clear hK K
          simp only [Act.put, List.setIfInBounds_toArray, List.set_cons_zero, List.set_cons_succ]
          refine wpS_nil ?_
          clear q4 hc1
          go_wp2_with fail
          refine ⟨⟨i + 1, by simp, by omega, fun j hj => ?_, Hk09.out.drew⟩, by simp [intOf]; omega⟩
          by_cases e : j = i
          · rw [e, Hx.out, Hy.out, Hxy.out]
          · exact Heq.out j (by omega)
        · have hne : ((strOf x).toList == (strOf y).toList) = false := by
            rw [strOf_toList, strOf_toList]; simpa using hxy
          have hrf : r = false := by
            rw [Hrr.out]
            exact decide_eq_false (fun e => hxy (by
              have := Hx.out
              rw [e, Hy.out] at this
              exact (Option.some.inj this).symm))
          subst hrf
          have Hxy := Lib.hid hxy
          have Hr9 := Lib.hid hr9
          have Hk9 := Lib.hid hk9
          have Hk09 := Lib.hid hk09
          clear hxy hr9 hk9 hk09
          go_wp2_with fail
          refine wp_region_script [3, 4, 5, 6, 7, 9, 10] [4] [.es [0, 1, 2] false, .ps [3], .fs [4], .ps [5, 6, 7], .es [8] true, .ps [9, 10]] (Keeps nowhere w9.drew) rfl (by kernel_rfl) ?_
          refine wpS_es rfl fun K hK => ?_
          have HK := Lib.hid hK
          clear hK
          simp only [List.map_cons, List.map_nil, Option.getD_some, List.getElem?_toArray, List.getElem?_cons_zero, List.getElem?_cons_succ]
          go_wp2_with fail
          refine HK.out _ _ (fun h => by cases h) ?_
          clear HK K
          refine wpS_ps rfl fun K hK => ?_
          simp only [List.map_cons, List.map_nil, Option.getD_some, List.getElem?_toArray, List.getElem?_cons_zero, List.getElem?_cons_succ]
          iterate 1 (first | (apply quietO_cons _ rfl; (intro w' _; go_simp; rfl)) | apply quietO_skip rfl)
          refine hK _ ?_
          clear hK K
          simp only [Act.put, List.setIfInBounds_toArray, List.set_cons_zero, List.set_cons_succ]
          refine wpS_fs rfl (Keeps.refl _ _) fun K hK => ?_
          simp only [List.map_cons, List.map_nil, Option.getD_some, List.getElem?_toArray, List.getElem?_cons_zero, List.getElem?_cons_succ]
          iterate 1 (first | (apply quietO_cons _ rfl; (intro w' hs; have c_0 := q4 w' hs; go_simp; rfl)) | apply quietO_skip rfl)
          refine hK _ ?_
          clear hK K
          simp only [Act.put, List.setIfInBounds_toArray, List.set_cons_zero, List.set_cons_succ]
          refine wpS_ps rfl fun K hK => ?_
          simp only [List.map_cons, List.map_nil, Option.getD_some, List.getElem?_toArray, List.getElem?_cons_zero, List.getElem?_cons_succ]
          iterate 3 (first | (apply quietO_cons _ rfl; (intro w' _; go_simp; rfl)) | apply quietO_skip rfl)
          refine hK _ ?_
          clear hK K
          simp only [Act.put, List.setIfInBounds_toArray, List.set_cons_zero, List.set_cons_succ]
          refine wpS_es rfl fun K hK => ?_
          have HK := Lib.hid hK
          clear hK
          simp only [List.map_cons, List.map_nil, Option.getD_some, List.getElem?_toArray, List.getElem?_cons_zero, List.getElem?_cons_succ]
          go_wp2_with fail
          refine HK.out _ _ (fun _ => Keeps.refl _ _) ?_
          clear HK K
          refine wpS_ps rfl fun K hK => ?_
          simp only [List.map_cons, List.map_nil, Option.getD_some, List.getElem?_toArray, List.getElem?_cons_zero, List.getElem?_cons_succ]
          iterate 2 (first | (apply quietO_cons _ rfl; (intro w' _; go_simp; rfl)) | apply quietO_skip rfl)
          refine hK _ ?_
          clear hK K
          simp only [Act.put, List.setIfInBounds_toArray, List.set_cons_zero, List.set_cons_succ]
          refine wpS_nil ?_
          clear q4 hc1
          go_wp2_with fail
          go_ret
          exact ⟨rfl, Hk09.out.drew⟩
      · obtain rfl : i = K := by omega
        have hltI : ¬ (i : Int) < i := by omega
        have hr1 : r = true := by
          rw [Hrr.out, decide_eq_true_iff]
          refine List.ext_getElem? fun j => ?_
          by_cases hj : j < i
          · exact heq j hj
          · rw [List.getElem?_eq_none (by rw [Hkl.out]; omega), List.getElem?_eq_none (by rw [← Hn.out]; omega)]
        subst hr1
        have Hkr := Lib.hid hkr
        have Heq := Lib.hid heq
        clear hkr heq
        go_wp2_with fail
        go_ret
        exact ⟨rfl, Hkr.out⟩
  · have e1 : ((K : Int) != (n : Int)) = true := by simp; omega
    have hr1 : decide (cur = l) = false := decide_eq_false (fun e => hpn (by rw [hn, ← e, hkl]))
    rw [hr1]
    have Hread := Lib.hid hread
    have Hpg := Lib.hid hpg
    have Hn := Lib.hid hn
    have Hkl := Lib.hid hkl
    have Hcur := Lib.hid hcur
    have Hcl := Lib.hid hcl
    have HK := Lib.hid hK
    have Hr := Lib.hid hr
    have Hpn := Lib.hid hpn
    clear hread hpg hn hkl hcur hcl hK hr hpn
    go_enter Tryz.func19, Tryz.ntmps19
    go_wp2_with fail
    refine Hpg.out.mono ?_
    rintro e w' ⟨rfl, rfl⟩
    go_wp2_with fail
    go_ret
    exact ⟨rfl, Keeps.refl _ _⟩
end
end Go.Proofs.YtnddaildicmneaaGreat
/-
  pages: the acts of the play: in memory, as they came in; few.
-/
namespace Go.Proofs.YtnddaildicmneaaGreat
open Go.Proofs Go.RowKit Go.Sort Go.Maps
open Go.ChangeShapes Go.WideShapes Go.ChangeAt Go.Deep

structure Act8 where
  op : Int
  page : Int
  num : Int
  v : Nat
  kA : Option Addr
  kc : Nat
  keep : List Bool
def Act8.cs (t : Act8) : List Value := [.int .i64 t.op, .int .i64 t.page, .int .i64 t.num, .int .u16 t.v, .slice t.kA t.keep.length t.kc]
def Act8.ok (w : World) (t : Act8) : Prop := (∃ g, recBo.Rd w (.slice t.kA t.keep.length t.kc) g t.keep) ∧ t.num ≤ 9223372036854775807 ∧ t.v < 65536
def Act8Arr (w : World) (A : Option Addr) (l : List Act8) : Prop := 0 < l.length → ∃ b off, A = some ⟨b, off, none⟩ ∧ b < w.heap.size ∧ ∀ (i : Nat) (t : Act8), l[i]? = some t → t.ok w ∧ ∀ k, k < 5 → w.cell? ⟨b, off + i * 5 + k, none⟩ = t.cs[k]?
theorem Act8Arr.at_ {w w' : World} {A : Option Addr} {l : List Act8} (h : Act8Arr w A l) (hk : Keeps nowhere w w') {i : Nat} {t : Act8} (hi : l[i]? = some t) : ∃ b off, A = some ⟨b, off, none⟩ ∧ t.ok w ∧ ∀ k, k < 5 → w'.cell? ⟨b, off + i * 5 + k, none⟩ = t.cs[k]? := by
  obtain ⟨b, off, hA, hb, hc⟩ := h (by have := (List.getElem?_eq_some_iff.1 hi).1; omega)
  obtain ⟨⟨⟨g, h1⟩, h2⟩, h3⟩ := hc i t hi
  exact ⟨b, off, hA, ⟨⟨g, h1⟩, h2⟩, fun k hk' => (hk.cell (p := ⟨b, off + i * 5 + k, none⟩) hb (fun h => h)).trans (h3 k hk')⟩
set_option maxRecDepth 20000
section
variable {H : Type} {enc : TypeId × Value → H} {w : World} {base : Nat} {held : Bool}
theorem trod_fld8 {t ty : TypeId} {fs : Array Field} {fuel i off sz : Nat} {cs : List Value} {x : DataW H × List MemPlace} (ht : Tryz.prog.underlying t = some (.struct fs)) (h : DataW.trod enc Tryz.prog w base (fun _ => true) held fuel t cs = some x)
    (hf : (fs[i]?).map (fun f => (f.type, f.offset)) = some (ty, off)) (hs : Tryz.prog.cellsOf ty = sz) : ∃ n y, DataW.trod enc Tryz.prog w base (fun _ => true) held n ty ((cs.drop off).take sz) = some y := by
  obtain ⟨ys, n, _, _, _, hl, hfl⟩ := DataW.trod_struct ht h
  obtain ⟨f, h1, h2⟩ := Option.map_eq_some_iff.1 hf
  injection h2 with h2 h3
  subst h2 h3 hs
  have h4 := hfl i f h1
  have hi : i < fs.size := (Array.getElem?_eq_some_iff.1 h1).1
  rw [List.getElem?_eq_getElem (by omega)] at h4
  exact ⟨n, _, h4⟩
theorem open_bools_val8 {fuel : Nat} {v : Value} {x : DataW H × List MemPlace} (h : DataW.trod enc Tryz.prog w base (fun _ => true) held fuel 34 [v] = some x) :
    ∃ (A : Option Addr) (c : Nat) (g : Option Nat) (L : List Bool), v = .slice A L.length c ∧ recBo.Rd w (.slice A L.length c) g L := by
  have hC : Tryz.prog.cellsOf 4 = 1 := by kernel_rfl
  have hv : ∃ A n c, v = .slice A n c := by
    rcases open_bools Tryz.underlying34 Tryz.underlying4 hC h with ⟨hcs, -⟩ | ⟨a, len, cap, B, hcs, -⟩
    · exact ⟨_, _, _, by simpa using hcs⟩
    · exact ⟨_, _, _, by simpa using hcs⟩
  obtain ⟨A, n, c, rfl⟩ := hv
  obtain ⟨g, L, hl, hr⟩ := open_bools_cells h
  exact ⟨A, c, g, L, by rw [hl], by rw [hl]; exact hr⟩
theorem open_acts8 {v : Value} {d : DataW H} {p : List MemPlace} {r : Reach} {b0 : Nat} (hv : Value.okWide Tryz.prog w r b0 22 v) (h : DataW.Trod enc Tryz.prog w base (fun _ => true) held 22 v d p) :
    ∃ (A : Option Addr) (l : List Act8) (c : Nat), v = .slice A l.length c ∧ Act8Arr w A l := by
  obtain ⟨a0, len, cap, rfl⟩ := okWide_slice Tryz.underlying22 hv
  obtain ⟨fuel, hf⟩ := h
  rcases open_slice Tryz.underlying22 hf with ⟨hcs, _⟩ | ⟨a, l, c, m, n, D, Pl, hcs, _, hl, hm, hmm, _, hi⟩
  · simp [Value.cells] at hcs
    obtain ⟨rfl, rfl, rfl⟩ := hcs
    exact ⟨none, [], 0, rfl, fun h => by simp at h⟩
  · simp [Value.cells] at hcs
    obtain ⟨rfl, rfl, rfl⟩ := hcs
    have hlm : len ≤ m := by rw [hmm]; split <;> omega
    have hC : Tryz.prog.cellsOf 37 = 5 := by kernel_rfl
    have hCi : Tryz.prog.cellsOf 3 = 1 := by kernel_rfl
    have hCu : Tryz.prog.cellsOf 35 = 1 := by kernel_rfl
    have hCB : Tryz.prog.cellsOf 34 = 1 := by kernel_rfl
    rw [hC] at hi
    obtain ⟨its, hql, hq⟩ := list_of_forall (P := fun i (t : Act8) => t.ok w ∧ ∀ k, k < 5 → w.cell? (a.add (i * 5 + k)) = t.cs[k]?) len (fun i hilt => by
      obtain ⟨cs', hc, ht'⟩ := hi i (by omega)
      obtain ⟨_, hcl, hat⟩ := World.cells?_some hc
      obtain ⟨x0, x1, x2, x3, x4, rfl⟩ : ∃ x0 x1 x2 x3 x4, cs' = [x0, x1, x2, x3, x4] := by
        match cs', hcl with
        | [x0, x1, x2, x3, x4], _ => exact ⟨x0, x1, x2, x3, x4, rfl⟩
      obtain ⟨_, _, f0⟩ := trod_fld8 (i := 0) Tryz.underlying37 ht' rfl hCi
      obtain ⟨_, _, f1⟩ := trod_fld8 (i := 1) Tryz.underlying37 ht' rfl hCi
      obtain ⟨_, _, f2⟩ := trod_fld8 (i := 2) Tryz.underlying37 ht' rfl hCi
      obtain ⟨_, _, f3⟩ := trod_fld8 (i := 3) Tryz.underlying37 ht' rfl hCu
      obtain ⟨_, _, f4⟩ := trod_fld8 (i := 4) Tryz.underlying37 ht' rfl hCB
      obtain ⟨o0, e0, -, w0⟩ := DataW.trod_int Tryz.underlying3 f0
      obtain ⟨o1, e1, -, w1⟩ := DataW.trod_int Tryz.underlying3 f1
      obtain ⟨o2, e2, -, w2⟩ := DataW.trod_int Tryz.underlying3 f2
      obtain ⟨o3, e3, -, w3⟩ := DataW.trod_int Tryz.underlying35 f3
      obtain ⟨A4, c4, g4, L4, e4, r4⟩ := open_bools_val8 f4
      have b2 := bounds_i64 w2
      have b3 := bounds_u16 w3
      obtain ⟨v3, rfl⟩ := Int.eq_ofNat_of_zero_le b3.1
      simp at e0 e1 e2 e3
      subst e0 e1 e2 e3 e4
      refine ⟨⟨o0, o1, o2, v3, A4, c4, L4⟩, ⟨⟨g4, r4⟩, by show o2 ≤ _; omega, by show v3 < _; omega⟩, fun k hk => ?_⟩
      have := hat k hk
      rw [Go.Deep.add_add] at this
      exact this)
    refine ⟨some a, its, cap, by rw [hql], fun hpos => ?_⟩
    have h0 := hq 0 _ (List.getElem?_eq_getElem hpos)
    obtain ⟨_, hc0⟩ := h0
    have hc0 := hc0 0 (by omega)
    have ha := plain_addr (a := a) (v := .int .i64 (its[0]'hpos).op) (by simpa [Act8.cs] using hc0)
    rw [ha] at hq
    refine ⟨a.block, a.off, by rw [← ha], ?_, fun i t hit => ?_⟩
    · have := block_lt_of_cell (a := a.add 0) (v := .int .i64 (its[0]'hpos).op) (by simpa [Act8.cs] using hc0)
      simpa [Addr.add] using this
    · have := hq i t hit
      simp only [add_plain] at this
      exact ⟨this.1, fun k hk => by rw [Nat.add_assoc]; exact this.2 k hk⟩
end
def fewV (l : List Act8) : Bool := decide (l.length ≤ 40) && l.all fun t => decide (t.keep.length ≤ 100)
set_option maxHeartbeats 4000000 in
theorem few_any (A : Option Addr) (n c : Nat) (l : List Act8) (w : World) (h : Act8Arr w A l) (hn : n = l.length) : Calls Tryz.prog 5 #[.slice A n c] w (RetV (.bool (fewV l)) w) := by
  obtain ⟨r, hr⟩ : ∃ r, r = fewV l := ⟨_, rfl⟩
  rw [← hr]
  by_cases h4 : 40 < n
  · have h4I : (40 : Int) < (n : Int) := by omega
    obtain rfl : r = false := by rw [hr]; unfold fewV; rw [← hn, decide_eq_false (by omega)]; rfl
    have H := Lib.hid h
    have Hn := Lib.hid hn
    have Hr := Lib.hid hr
    clear h hn hr
    go_enter Tryz.func5, Tryz.ntmps5
    go_wp2_with fail
    go_ret
    exact ⟨rfl, rfl⟩
  · have h4I : ¬ (40 : Int) < (n : Int) := by omega
    have H := Lib.hid h
    have Hn := Lib.hid hn
    have Hr := Lib.hid hr
    clear h hn hr
    go_enter Tryz.func5, Tryz.ntmps5
    go_upto_region 4 with fail
    go_loopw [3] (fun iv wr => ∃ i : Nat, iv = .int .i64 i ∧ i ≤ n ∧ wr = w ∧ ∀ (j : Nat) (t : Act8), j < i → l[j]? = some t → t.keep.length ≤ 100) (fun iv _ => n - (intOf iv).toNat)
    case atStart => exact ⟨0, rfl, Nat.zero_le _, rfl, fun j t hj => absurd hj (by omega)⟩
    case round =>
      obtain ⟨i, rfl, hi, rfl, hall⟩ := hrel
      by_cases hlt : i < n
      · have hltI : (i : Int) < n := by omega
        have hi0 : (0 : Int) ≤ (i : Int) := by omega
        have hi1 : IntKind.i64.wrap ((i : Int) + 1) = i + 1 := IntWalk.i64_in _ (by omega)
        obtain ⟨t, ht⟩ : ∃ t, l[i]? = some t := ⟨_, List.getElem?_eq_getElem (by rw [← Hn.out]; exact hlt)⟩
        obtain ⟨b, off, hA, hok, hc⟩ := H.out.at_ (Keeps.refl nowhere _) ht
        have c4 := hc 4 (by omega)
        rw [show t.cs[4]? = some (.slice t.kA t.keep.length t.kc) from rfl] at c4
        subst hA
        obtain ⟨L, hL⟩ : ∃ L, L = t.keep.length := ⟨_, rfl⟩
        rw [← hL] at c4
        by_cases hk : 100 < L
        · have hkI : (100 : Int) < (L : Int) := by omega
          obtain rfl : r = false := by
            rw [Hr.out]
            unfold fewV
            rw [Bool.and_eq_false_iff]
            right
            rw [List.all_eq_false]
            exact ⟨t, List.mem_of_getElem? ht, by simp; omega⟩
          have Hall := Lib.hid hall
          have Ht := Lib.hid ht
          have Hok := Lib.hid hok
          have Hc := Lib.hid hc
          have HL := Lib.hid hL
          clear hall ht hok hc hL
          go_wp2_with fail
          go_ret
          exact ⟨rfl, rfl⟩
        · have hkI : ¬ (100 : Int) < (L : Int) := by omega
          have Hall := Lib.hid hall
          have Ht := Lib.hid ht
          have Hok := Lib.hid hok
          have Hc := Lib.hid hc
          have HL := Lib.hid hL
          clear hall ht hok hc hL
          go_wp2_with fail
          go_roundw
          case rel => exact ⟨i + 1, by simp, by omega, by trivial, fun j t' hj ht' => by
            by_cases e : j = i
            · subst e
              rw [Ht.out] at ht'
              rw [← Option.some.inj ht', ← HL.out]; omega
            · exact Hall.out j t' (by omega) ht'⟩
          case measure => simp [intOf]; omega
      · obtain rfl : i = n := by omega
        have hltI : ¬ (i : Int) < i := by omega
        obtain rfl : r = true := by
          rw [Hr.out]
          unfold fewV
          rw [← Hn.out, decide_eq_true (by omega), Bool.true_and, List.all_eq_true]
          intro t ht
          obtain ⟨j, hj, e⟩ := List.getElem_of_mem ht
          exact decide_eq_true (hall j t (by rw [Hn.out]; exact hj) (by rw [List.getElem?_eq_getElem hj, e]))
        have Hall := Lib.hid hall
        clear hall
        go_wp2_with fail
        go_ret
        exact ⟨rfl, rfl⟩
end Go.Proofs.YtnddaildicmneaaGreat
/-
  pages: the play: what holds within it.
-/
namespace Go.Proofs.YtnddaildicmneaaGreat
open Go.Proofs Go.RowKit Go.Sort Go.Maps

theorem PV.mono {N W G W' G' : Nat} {D : DiskV} {B : BookV} {vals : List (List UInt8)} (h : PV N W G D B vals) (hW : W ≤ W') (hG : G ≤ G') : PV N W' G' D B vals :=
  ⟨h.lies, h.pend, h.size, h.bsz, h.klen, Nat.le_trans h.wr hW, h.keep, h.arm, Nat.le_trans h.gen hG, h.ch, h.out⟩
theorem curV_lens {B : BookV} {vals : List (List UInt8)} (hc : ChOk B) (hz : B.size = 64) (hv : ∀ x ∈ vals, x.length = 48) : ∀ x ∈ curV B vals, x.length = 48 := fun x hx => by
  obtain ⟨i, hi, e⟩ := List.getElem_of_mem hx
  have h1 : (curV B vals)[i]? = some x := by rw [List.getElem?_eq_getElem hi, e]
  rw [curV_get] at h1
  obtain ⟨v, hv0, e2⟩ := Option.map_eq_some_iff.1 h1
  have hvl := hv v (List.mem_of_getElem? hv0)
  cases hf : B.changed.find? (fun x => decide (x.1 = i)) with
  | none => rw [hf] at e2; rw [← e2]; exact hvl
  | some y =>
    rw [hf] at e2
    rw [← e2]
    have := hc.len y (List.mem_of_find?_eq_some hf)
    rw [hz] at this
    exact this
structure Mid (w0 w : World) (d s N k c : Nat) (kv nv cv : Value) (F M : Nat → Prop) (D : DiskV) (B : BookV) (vals nowL : List (List UInt8)) : Prop where
  pm : PM (fun k => cv.ownBlock = some k) w0 w d s F M D B
  pv : PV N (4000 + 2000 * c) (2 + c) D B vals
  a2 : B.a = 2
  nr : B.n + 4 = N
  pk : B.pages = k
  kept : recStr.Row w kv vals
  now : recStr.Row w nv nowL
  chg : ∃ L, recBo.Row w cv L ∧ L.length = k
  oc : Above w0.heap.size cv.ownBlock
  vl : ∀ x ∈ vals, x.length = 48
section
variable {X : Nat → Prop} {w0 w w' : World} {d s s' N k c : Nat} {kv nv cv : Value} {F M F' M' : Nat → Prop} {D D' : DiskV} {B B' : BookV} {vals nowL : List (List UInt8)}
/-- a store into a block of bools that lies apart -/
theorem PM.boolStore {X : Nat → Prop} (h : PM X w0 w d s F M D B) {q : Nat} {cs : Array Value} (hb : Blk w q 4 cs) (hq : X q) (h0 : w0.heap.size ≤ q) (hk : Keeps (only q) w w') : PM X w0 w' d s F M D B := by
  have hlt := hk.size
  have hdk : DK X w' d F D := by
    obtain ⟨b, kv, kp, ks, vs, rfl, h, h1, h2⟩ := h.dk
    refine ⟨b, kv, kp, ks, vs, rfl, ?_, h1, fun k e => Nat.lt_of_lt_of_le (h2 k e) hlt⟩
    exact {
      box := h.box.keep hk (fun e => h.box.ne_ hb (by decide) (show d = q from e))
      kept := h.kept.keep hk (fun x e e2 => by have e3 : x = q := e2; rw [e3] at e; exact own_blk_ne h.kept hb (by decide) e)
      klen := h.klen
      sec := fun i s L g1 g2 => ⟨(h.sec i s L g1 g2).1.keep hk (fun x e e2 => by have e3 : x = q := e2; rw [e3] at e; exact own_blk_ne (h.sec i s L g1 g2).1 hb (by decide) e), (h.sec i s L g1 g2).2⟩
      map := h.map.keep hk (fun e => h.map.ne_blk hb (show b = q from e).symm)
      vlen := h.vlen
      pb := fun i p v g1 g2 => ⟨(h.pb i p v g1 g2).1.keep hk (fun x e e2 => by have e3 : x = q := e2; rw [e3] at e; exact own_blk_ne (h.pb i p v g1 g2).1 hb (by decide) e), (h.pb i p v g1 g2).2⟩
      keep := h.keep.keep hk (fun x e e2 => by have e3 : x = q := e2; rw [e3] at e; exact h1 q e hq) }
  have hbp : BP X w' s d M B := by
    obtain ⟨c, sv, ce, hM, h, h1, h2⟩ := h.bp
    refine ⟨c, sv, ce, hM, ?_, h1, fun k e => Nat.lt_of_lt_of_le (h2 k e) hlt⟩
    exact {
      box := h.box.keep hk (fun e => h.box.ne_ hb (by decide) (show s = q from e))
      sec := h.sec.keep hk (fun x e e2 => by have e3 : x = q := e2; rw [e3] at e; exact h1 q e hq)
      map := h.map.keep hk (fun e => h.map.ne_blk hb (show c = q from e).symm)
      vals := fun x hx => (h.vals x hx).keep hk (fun y e e2 => by have e3 : y = q := e2; rw [e3] at e; exact own_blk_ne (h.vals x hx) hb (by decide) e)
      ch := h.ch }
  exact ⟨hdk, hbp, h.ap, h.own, h.kp.trans hk (fun k hk2 e => by have e2 : k = q := e; omega)⟩
/-- a mark is set in the row of the changed -/
theorem Mid.setChg {q n cp : Nat} {L' : List Bool} (h : Mid w0 w d s N k c kv nv (.slice (some ⟨q, 0, none⟩) n cp) F M D B vals nowL) {L : List Bool} (hr : recBo.Row w (.slice (some ⟨q, 0, none⟩) n cp) L) (hk : Keeps (only q) w w') (hr2 : recBo.Row w' (.slice (some ⟨q, 0, none⟩) n cp) L') (hl : L'.length = k) : Mid w0 w' d s N k c kv nv (.slice (some ⟨q, 0, none⟩) n cp) F M D B vals nowL := by
  obtain ⟨cs, hb⟩ : ∃ cs, Blk w q 4 cs := by
    rcases hr.blk with ⟨e, -⟩ | ⟨b, cp2, rst, e, hb, -⟩
    · cases e
    · injection e with e _ _
      injection e with e
      injection e with e _
      subst e
      exact ⟨_, hb⟩
  have hS : ∀ (v : Value) (l : List (List UInt8)), recStr.Row w v l → recStr.Row w' v l := fun v l hv => hv.keep hk (fun x e e2 => by have e3 : x = q := e2; rw [e3] at e; exact own_blk_ne hv hb (by decide) e)
  exact ⟨h.pm.boolStore hb rfl (h.oc q rfl) hk, h.pv, h.a2, h.nr, h.pk, hS _ _ h.kept, hS _ _ h.now, ⟨L', hr2, hl⟩, h.oc, h.vl⟩
theorem PM.mark {X : Nat → Prop} (h : PM X w0 w d s F M D B) (hk : Keeps nowhere w w') {q n cp : Nat} (h1 : w.heap.size ≤ q) (h2 : q < w'.heap.size) : PM (fun k => (Value.slice (some ⟨q, 0, none⟩) n cp).ownBlock = some k) w0 w' d s F M D B := by
  have e : (fun k => (Value.slice (some ⟨q, 0, none⟩) n cp).ownBlock = some k) = fun k => k = q := by
    funext k
    exact propext ⟨fun e => (by simpa [Value.ownBlock] using e.symm), fun e => by rw [e]; rfl⟩
  rw [e]
  refine ⟨h.dk.mark hk h1 h2, ?_, h.ap, h.own, h.kp.more hk⟩
  obtain ⟨c, sv, ce, hM, hb, -⟩ := h.bp
  refine ⟨c, sv, ce, hM, hb.same hk, fun k hk2 e => ?_, fun k e => by omega⟩
  have := hb.sec.lt k hk2
  omega
theorem Mid.same (h : Mid w0 w d s N k c kv nv cv F M D B vals nowL) (hk : Keeps nowhere w w') : Mid w0 w' d s N k c kv nv cv F M D B vals nowL := by
  obtain ⟨L, h1, h2⟩ := h.chg
  exact ⟨h.pm.same hk, h.pv, h.a2, h.nr, h.pk, h.kept.same hk, h.now.same hk, ⟨L, h1.same hk, h2⟩, h.oc, h.vl⟩
theorem Mid.more (h : Mid w0 w d s N k c kv nv cv F M D B vals nowL) {c' : Nat} (hc : c ≤ c') : Mid w0 w d s N k c' kv nv cv F M D B vals nowL :=
  ⟨h.pm, h.pv.mono (by omega) (by omega), h.a2, h.nr, h.pk, h.kept, h.now, h.chg, h.oc, h.vl⟩
/-- the disk and the book have gone on; the pages are the same -/
theorem Mid.step (h : Mid w0 w d s N k c kv nv cv F M D B vals nowL) (hs : PStep w F M w' F' M') (pm : PM (fun k => cv.ownBlock = some k) w0 w' d s' F' M' D' B') {c' : Nat} (pv : PV N (4000 + 2000 * c') (2 + c') D' B' vals) (a2 : B'.a = 2) (nr : B'.n + 4 = N) (pk : B'.pages = k) : Mid w0 w' d s' N k c' kv nv cv F' M' D' B' vals nowL := by
  obtain ⟨L, h1, h2⟩ := h.chg
  exact ⟨pm, pv, a2, nr, pk, hs.str h.pm h.kept, hs.str h.pm h.now, ⟨L, hs.raw h.pm h1 (.inr rfl), h2⟩, h.oc, h.vl⟩
theorem Mid.keptNow (h : Mid w0 w d s N k c kv nv cv F M D B vals nowL) (e : vals = nowL) : Mid w0 w d s N k c nv nv cv F M D B vals vals := by
  subst e
  exact ⟨h.pm, h.pv, h.a2, h.nr, h.pk, h.now, h.now, h.chg, h.oc, h.vl⟩
theorem Mid.nowKept (h : Mid w0 w d s N k c kv nv cv F M D B vals nowL) : Mid w0 w d s N k c kv kv cv F M D B vals vals :=
  ⟨h.pm, h.pv, h.a2, h.nr, h.pk, h.kept, h.kept, h.chg, h.oc, h.vl⟩
theorem Mid.chgRow (h : Mid w0 w d s N k c kv nv cv F M D B vals nowL) (hk : Keeps nowhere w w') {q : Nat} (hq : w.heap.size ≤ q) (hr : recBo.Row w' (.slice (some ⟨q, 0, none⟩) k k) (List.replicate k false)) : Mid w0 w' d s N k c kv nv (.slice (some ⟨q, 0, none⟩) k k) F M D B vals nowL := by
  have h2 := h.same hk
  exact ⟨h.pm.mark hk hq (by have := hr.lt q rfl; omega), h2.pv, h2.a2, h2.nr, h2.pk, h2.kept, h2.now, ⟨_, hr, by simp⟩, fun b hb => by
    have e : q = b := by simpa [Value.ownBlock] using hb
    have := h.pm.kp.size
    omega, h2.vl⟩
theorem Mid.nowRow (h : Mid w0 w d s N k c kv nv cv F M D B vals nowL) {nv' : Value} {L : List (List UInt8)} (hr : recStr.Row w nv' L) : Mid w0 w d s N k c kv nv' cv F M D B vals L :=
  ⟨h.pm, h.pv, h.a2, h.nr, h.pk, h.kept, hr, h.chg, h.oc, h.vl⟩
/-- a block of another type -/
theorem PStep.blk (hs : PStep w F M w' F' M') (h : PM X w0 w d s F M D B) {q : Nat} {cs : Array Value} (hb : Blk w q 37 cs) : Blk w' q 37 cs := by
  refine hb.keep hs.kp (fun e => ?_)
  rcases e with e | e
  · obtain ⟨b, kv, kp, ks, vs, rfl, h2, -⟩ := h.dk
    rcases e with rfl | rfl | e
    · exact h2.box.ne_ hb (by decide) rfl
    · exact h2.map.ne_blk hb rfl
    · exact own_blk_ne h2.kept hb (by decide) e
  · obtain ⟨c, sv, ce, rfl, h2, -⟩ := h.bp
    rcases e with rfl | rfl
    · exact h2.box.ne_ hb (by decide) rfl
    · exact h2.map.ne_blk hb rfl
theorem setCh {w : World} {A : Option Addr} {n cap : Nat} {L : List Bool} (h : recBo.Row w (.slice A n cap) L) {i : Nat} (hi : i < L.length) (x : Bool) :
    ∃ b, A = some ⟨b, 0, none⟩ ∧ (∃ u, w.cell? ⟨b, i, none⟩ = some u) ∧ w.frozen? ⟨b, i, none⟩ = false ∧ recBo.Row (w.setCell ⟨b, i, none⟩ (.bool x)) (.slice A n cap) (L.set i x) ∧ Keeps (only b) w (w.setCell ⟨b, i, none⟩ (.bool x)) := by
  obtain ⟨u, hu⟩ : ∃ u, L[i]? = some u := ⟨_, List.getElem?_eq_getElem hi⟩
  rcases h.blk with ⟨e, e2⟩ | ⟨b, cp, rst, e, -⟩
  · rw [e2] at hi; simp at hi
  · injection e with e1 e2 e3
    subst e1
    obtain ⟨f1, f2, f3, f4⟩ := setBo h e2 hu x
    exact ⟨b, rfl, ⟨_, f1⟩, f2, f3, f4⟩
end
theorem flat_get {K : List (List UInt8)} (h : ∀ L ∈ K, L.length = 64) : ∀ i, K.flatten[i]? = ((K[i / 64]?).getD [])[i % 64]? := by
  induction K with
  | nil => intro i; simp
  | cons L r ih =>
    intro i
    have hL : L.length = 64 := h L (by simp)
    have hr := ih (fun x hx => h x (by simp [hx]))
    rw [List.flatten_cons]
    by_cases hi : i < 64
    · rw [List.getElem?_append_left (by omega), show i / 64 = 0 by omega, show i % 64 = i by omega]
      simp
    · rw [List.getElem?_append_right (by omega), hL, hr (i - 64), show i / 64 = (i - 64) / 64 + 1 by omega, show i % 64 = (i - 64) % 64 by omega, List.getElem?_cons_succ]
theorem flat_zero {K : List (List UInt8)} (h : ∀ L ∈ K, L.length = 64) {x i : Nat} (hx : K[x]? = some (zerosB 64)) (hi : i / 64 = x) : K.flatten[i]? = some 0 := by
  rw [flat_get h, hi, hx, Option.getD_some]
  unfold zerosB
  rw [List.getElem?_replicate, if_pos (Nat.mod_lt _ (by omega))]
end Go.Proofs.YtnddaildicmneaaGreat
/-
  loggialaw8.PagesPlay: the walk.
-/
namespace Go.Proofs.YtnddaildicmneaaGreat
open Go.Proofs Go.RowKit Go.Sort Go.Maps

theorem rdB_cell8 {w : World} {A : Option Addr} {n c : Nat} {g : Option Nat} {L : List UInt8} (h : recB.Rd w (.slice A n c) g L) {i : Nat} {x : UInt8} (hx : L[i]? = some x) : ∃ b o, A = some ⟨b, o, none⟩ ∧ w.cell? ⟨b, o + i, none⟩ = some (bv x) := by
  obtain ⟨b, o, c', hv, -, hc⟩ := rdB_at h (by have := (List.getElem?_eq_some_iff.1 hx).1; omega)
  injection hv with e _ _
  exact ⟨b, o, e, hc i x hx⟩
set_option maxRecDepth 20000 in
set_option maxHeartbeats 4000000 in
theorem pplay_many (n : Nat) (A : Option Addr) (c : Nat) (l : List Act8) (w : World) (hA : Act8Arr w A l) (hf : fewV l = false) : Calls Tryz.prog 3 #[.int .u8 n, .slice A l.length c] w (YesD w) := by
  have hkn := known8 w
  have hfw := fun w1 (hk : Keeps nowhere w w1) => few_any A l.length c l w1 (fun hp => by
    obtain ⟨b, off, e, hb, hc⟩ := hA hp
    refine ⟨b, off, e, Nat.lt_of_lt_of_le hb hk.size, fun i t hi => ?_⟩
    obtain ⟨⟨⟨g, h1⟩, h2⟩, h3⟩ := hc i t hi
    exact ⟨⟨⟨g, h1.same hk⟩, h2⟩, fun k hk' => (hk.cell (p := ⟨b, off + i * 5 + k, none⟩) hb (fun h => h)).trans (h3 k hk')⟩) rfl
  rw [hf] at hfw
  have Hkn := Lib.hid hkn
  have Hfw := Lib.hid hfw
  have HA := Lib.hid hA
  clear hkn hfw hA
  go_enter Tryz.func3, Tryz.ntmps3
  go_wp2_with fail
  refine (Hkn.out).mono ?_
  rintro e w1 ⟨rfl, hk1⟩
  go_wp2_with fail
  refine (Hfw.out w1 hk1).mono ?_
  rintro e w2 ⟨rfl, rfl⟩
  go_wp2_with fail
  go_ret
  exact ⟨rfl, hk1⟩
set_option maxRecDepth 20000 in
set_option maxHeartbeats 16000000 in
theorem pplay_any (n : Nat) (A : Option Addr) (c : Nat) (l : List Act8) (w : World) (hn : n < 256) (hA : Act8Arr w A l) (hf : fewV l = true) : Calls Tryz.prog 3 #[.int .u8 n, .slice A l.length c] w (YesD w) := by
  have hkn := known8 w
  have hfw := fun w1 (hk : Keeps nowhere w w1) => few_any A l.length c l w1 (fun hp => by
    obtain ⟨b, off, e, hb, hc⟩ := hA hp
    refine ⟨b, off, e, Nat.lt_of_lt_of_le hb hk.size, fun i t hi => ?_⟩
    obtain ⟨⟨⟨g, h1⟩, h2⟩, h3⟩ := hc i t hi
    exact ⟨⟨⟨g, h1.same hk⟩, h2⟩, fun k hk' => (hk.cell (p := ⟨b, off + i * 5 + k, none⟩) hb (fun h => h)).trans (h3 k hk')⟩) rfl
  rw [hf] at hfw
  have hf2 : l.length ≤ 40 ∧ ∀ t ∈ l, t.keep.length ≤ 100 := by
    unfold fewV at hf
    rw [Bool.and_eq_true, decide_eq_true_iff, List.all_eq_true] at hf
    exact ⟨hf.1, fun t ht => by simpa using hf.2 t ht⟩
  obtain ⟨hl40, hkeep⟩ := hf2
  obtain ⟨L, hL⟩ : ∃ L, L = l.length := ⟨_, rfl⟩
  rw [← hL] at hfw hl40 ⊢
  obtain ⟨m, hm⟩ : ∃ m, m = n % 6 := ⟨_, rfl⟩
  have e1 : Int.tmod (n : Int) 6 = (m : Int) := by rw [Int.tmod_eq_emod_of_nonneg (by omega)]; omega
  have e1b : (n : Int) % 6 = (m : Int) := by omega
  have e1c : IntKind.u8.wrap (m : Int) = m := by rw [IntKind.wrap_u8']; omega
  have e2 : IntKind.i64.wrap (m : Int) = m := IntWalk.i64_in _ (by omega)
  obtain ⟨k, hk⟩ : ∃ k, k = 1 + m := ⟨_, rfl⟩
  have e3 : IntKind.i64.wrap (1 + (m : Int)) = (k : Int) := by rw [IntWalk.i64_in _ (by omega)]; omega
  obtain ⟨R, hR⟩ : ∃ R, R = 3 * k + 16 := ⟨_, rfl⟩
  obtain ⟨k3, hk3⟩ : ∃ k3, k3 = 3 * k := ⟨_, rfl⟩
  have e4 : IntKind.i64.wrap (3 * (k : Int)) = (k3 : Int) := by rw [IntWalk.i64_in _ (by omega)]; omega
  have e5 : IntKind.i64.wrap ((k3 : Int) + 16) = (R : Int) := by rw [IntWalk.i64_in _ (by omega)]; omega
  obtain ⟨N, hN⟩ : ∃ N, N = R + 4 := ⟨_, rfl⟩
  have e6 : IntKind.i64.wrap ((R : Int) + 4) = (N : Int) := by rw [IntWalk.i64_in _ (by omega)]; omega
  have hk1 : 1 ≤ k ∧ k ≤ 6 := by omega
  have hft : fitsN R k := ⟨by omega, by omega, by omega⟩
  have hNl : N ≤ 100 ∧ 1 ≤ N ∧ R + 4 = N ∧ 19 ≤ R := by omega
  have hnew := fun w1 (hk : Keeps nowhere w w1) => own_new (w0 := w) N 64 hk (by omega) (by omega) (by decide) (by decide)
  clear hm hk hk3 hf
  have Hkn := Lib.hid hkn
  have Hfw := Lib.hid hfw
  have HA := Lib.hid hA
  have Hkeep := Lib.hid hkeep
  have HL := Lib.hid hL
  have HR := Lib.hid hR
  have HN := Lib.hid hN
  have Hft := Lib.hid hft
  have Hnew := Lib.hid hnew
  clear hkn hfw hA hkeep hL hR hN hft hnew
  go_enter Tryz.func3, Tryz.ntmps3
  go_wp2_with fail
  refine (Hkn.out).mono ?_
  rintro e w1 ⟨rfl, hkw1⟩
  go_wp2_with fail
  refine (Hfw.out w1 hkw1).mono ?_
  rintro e w2 ⟨rfl, rfl⟩
  go_wp2_with fail
  refine (Hnew.out w1 hkw1).mono ?_
  rintro e w2 ⟨d, F2, rfl, o2, -, -⟩
  have hfm := pm_format N 2 R k o2 (by omega) (by omega) Hft.out
  unfold dp bp at *
  have O2 := Lib.hid o2
  have Hfm := Lib.hid hfm
  have Hkw1 := Lib.hid hkw1
  clear o2 hfm hkw1
  go_wp2_with fail
  refine (Hfm.out).mono ?_
  rintro e w3 ⟨s, F3, M3, D3, rfl, pm3, pv3, ho3, -, -, -⟩
  clear Hfm Hnew Hkn Hfw
  have Pm3 := Lib.hid pm3
  have Pv3 := Lib.hid pv3
  have Ho3 := Lib.hid ho3
  clear pm3 pv3 ho3
  go_upto_region 13 with fail
  go_loopw [11, 12] (fun kv iv wr => ∃ i : Nat, iv = .int .i64 i ∧ i ≤ k ∧ recStr.Row wr kv (List.replicate i (zerosB 48)) ∧ Above w3.heap.size kv.ownBlock ∧ Keeps nowhere w3 wr) (fun _ iv _ => k - (intOf iv).toNat)
  case atStart => exact ⟨0, rfl, Nat.zero_le _, RecT.Row.nil _ _, Above.none _, Keeps.refl _ _⟩
  case round =>
    obtain ⟨i, rfl, hi, hrow, hab, hkr⟩ := hrel
    by_cases hlt : i < k
    · have hltI : (i : Int) < k := by omega
      have hi1 : IntKind.i64.wrap ((i : Int) + 1) = i + 1 := IntWalk.i64_in _ (by omega)
      have Hrow := Lib.hid hrow
      have Hab := Lib.hid hab
      have Hkr := Lib.hid hkr
      clear hrow hab hkr
      go_wp2_with (at_make; refine wpList_make_bytesB _ rfl _ _ rfl 48 48 rfl rfl rfl (by omega) ?_)
      intro w4 hx4 hk4
      obtain ⟨q, hq⟩ : ∃ q, q = wr.heap.size := ⟨_, rfl⟩
      rw [← hq] at hx4
      simp only [← hq]
      have hcv := conv_str _ _ (zerosB 48) w4 (rd_ofB hx4.rd (by decide))
      have hka : Keeps nowhere w4 (w4.alloc (.cells #[.string (strOf (zerosB 48))] 9)) := (Keeps.refl nowhere w4).alloc _
      have hrow5 := (Hrow.out.same hk4).same hka
      have hrd5 := RecT.Rd.one recStr w4 (zerosB 48)
      have hlb : (List.replicate i (zerosB 48)).length + [zerosB 48].length ≤ 100000000 := by simp; omega
      have Hx4 := Lib.hid hx4
      have Hk4 := Lib.hid hk4
      have Hka := Lib.hid hka
      have Hrow5 := Lib.hid hrow5
      have Hrd5 := Lib.hid hrd5
      have Hlb := Lib.hid hlb
      have Hq := Lib.hid hq
      clear hx4 hk4 hka hrow5 hrd5 hlb hq
      go_wp2_with (at_builtin; go_must (refine RecT.wpList_append (R := recStr) Tryz.underlying32 infoStr rfl (by decide) rfl (.tmp 67) (.tmp 70) rfl _ (List.replicate i (zerosB 48)) rfl Hrow5.out _ _ [zerosB 48] rfl Hrd5.out Hlb.out ?_))
      intro v5 w5 hrow6 hk5 hf5
      rw [show List.replicate i (zerosB 48) ++ [zerosB 48] = List.replicate (i + 1) (zerosB 48) from (List.replicate_succ' ..).symm] at hrow6
      have hsz : w3.heap.size ≤ w4.heap.size := Nat.le_trans Hkr.out.size Hk4.out.size
      have hab6 : Above w3.heap.size v5.ownBlock := fun b hb => (hf5 b hb).elim (fun e => Hab.out b e) (fun e => by omega)
      have hkr6 : Keeps nowhere w3 w5 := ((Hkr.out.more Hk4.out).more Hka.out).trans hk5 (fun b hb e => by have := Hab.out b e; omega)
      clear hf5 hk5 hsz
      have Hrow6 := Lib.hid hrow6
      have Hab6 := Lib.hid hab6
      have Hkr6 := Lib.hid hkr6
      clear hrow6 hab6 hkr6
      go_wp2_with fail
      go_roundw
      case rel => exact ⟨i + 1, by simp, by omega, Hrow6.out, Hab6.out, Hkr6.out⟩
      case measure => simp [intOf]; omega
    · obtain rfl : i = k := by omega
      have hltI : ¬ (i : Int) < i := by omega
      have pm4 := Pm3.out.same hkr
      have hkw : Keeps nowhere w wr := Pm3.out.kp.more hkr
      obtain ⟨kA, kc, hkv, -⟩ := hrow.form
      subst hkv
      obtain ⟨kn, hkn⟩ : ∃ kn, kn = (List.replicate i (zerosB 48)).length := ⟨_, rfl⟩
      rw [← hkn] at hrow ⊢
      clear hab
      have Pm4 := Lib.hid pm4
      have Hkw := Lib.hid hkw
      have Hrow := Lib.hid hrow
      have Hkr := Lib.hid hkr
      have Hkn := Lib.hid hkn
      clear pm4 hkw hrow hkr hkn
      go_wp2_with (at_make; refine recBo.wpList_make_one false (.bool false) rfl rfl Tryz.underlying34 infoBo (by omega) _ rfl _ _ rfl i (i : Int) rfl rfl rfl (by omega) ?_)
      intro w5 hx5 hk5
      obtain ⟨q5, hq5⟩ : ∃ q, q = wr.heap.size := ⟨_, rfl⟩
      rw [← hq5] at hx5
      simp only [← hq5]
      have mid5 : Mid w w5 d s N i 0 (.slice kA kn kc) (.slice kA kn kc) (.slice (some ⟨q5, 0, none⟩) i i) F3 M3 D3 ⟨2, R, 64, 1, i, List.replicate i false, []⟩ (List.replicate i (zerosB 48)) (List.replicate i (zerosB 48)) :=
        ⟨Pm4.out.mark hk5 (by rw [hq5]; exact Nat.le_refl _) (hx5.lt q5 rfl), Pv3.out.mono (by omega) (by omega), rfl, hNl.2.2.1, rfl, Hrow.out.same hk5, Hrow.out.same hk5, ⟨_, hx5, by simp⟩, fun b hb => by
          have e2 : q5 = b := by simpa [Value.ownBlock] using hb
          have := Hkw.out.size
          omega, fun x hx => by rw [List.eq_of_mem_replicate hx]; simp [zerosB]⟩
      obtain ⟨B0, hB0⟩ : ∃ B0 : BookV, B0 = ⟨2, R, 64, 1, i, List.replicate i false, []⟩ := ⟨_, rfl⟩
      have hcur0 : curV B0 (List.replicate i (zerosB 48)) = List.replicate i (zerosB 48) := curV_nil (by rw [hB0])
      rw [← hB0] at mid5
      rw [← hcur0] at mid5
      rw [hcur0] at mid5
      have mid6 : Mid w w5 d s N i 0 (.slice kA kn kc) (.slice kA kn kc) (.slice (some ⟨q5, 0, none⟩) i i) F3 M3 D3 B0 (List.replicate i (zerosB 48)) (curV B0 (List.replicate i (zerosB 48))) := by rw [hcur0]; exact mid5
      clear mid5 hx5 hB0 hcur0
      obtain ⟨k, rfl⟩ : ∃ k, i = k := ⟨i, rfl⟩
      have Mid6 := Lib.hid mid6
      have Hk5 := Lib.hid hk5
      have Hq5 := Lib.hid hq5
      clear mid6 hk5 hq5
      go_upto_region 19 with fail
      go_loopw [9, 11, 13, 14, 15] (fun sv kv nv cv iv wr => ∃ (j s : Nat) (F M : Nat → Prop) (D : DiskV) (B : BookV) (vals : List (List UInt8)), iv = .int .i64 j ∧ sv = .pointer (some ⟨s, 0, none⟩) ∧ j ≤ L ∧ Mid w wr d s N i j kv nv cv F M D B vals (curV B vals) ∧ D.off = false) (fun _ _ _ _ iv _ => L - (intOf iv).toNat)
      case atStart => exact ⟨0, s, F3, M3, D3, B0, _, rfl, rfl, Nat.zero_le _, Mid6.out, Ho3.out⟩
      case round =>
        obtain ⟨j, s, F, M, D, B, vals, rfl, rfl, hj, hmid, ho⟩ := hrel
        by_cases hlt : j < L
        · have hltI : (j : Int) < L := by omega
          have hj0 : (0 : Int) ≤ (j : Int) := by omega
          have hj1 : IntKind.i64.wrap ((j : Int) + 1) = j + 1 := IntWalk.i64_in _ (by omega)
          obtain ⟨t, ht⟩ : ∃ t, l[j]? = some t := ⟨_, List.getElem?_eq_getElem (by rw [← HL.out]; exact hlt)⟩
          obtain ⟨b, off, hA', hok, hc⟩ := HA.out.at_ hmid.pm.kp ht
          subst hA'
          have c0 := hc 0 (by omega)
          have c1 := hc 1 (by omega)
          have c2 := hc 2 (by omega)
          have c3 := hc 3 (by omega)
          have c4 := hc 4 (by omega)
          rw [Nat.add_zero] at c0
          have hkp100 := Hkeep.out t (List.mem_of_getElem? ht)
          obtain ⟨op, page, num, v, kA2, kc2, keep⟩ := t
          simp only [Act8.cs, List.getElem?_cons_zero, List.getElem?_cons_succ] at c0 c1 c2 c3 c4
          obtain ⟨kn2, hkn2⟩ : ∃ kn2, kn2 = keep.length := ⟨_, rfl⟩
          rw [← hkn2] at c4
          obtain ⟨⟨g, hkr4⟩, hnum, hv⟩ := hok
          simp only at hkr4 hnum hv
          clear hc
          obtain ⟨q, hq⟩ : ∃ q, q = wr.heap.size := ⟨_, rfl⟩
          obtain ⟨w6, hw6⟩ : ∃ w6, w6 = wr.alloc (.cells #[.int .i64 op, .int .i64 page, .int .i64 num, .int .u16 v, .slice kA2 kn2 kc2] 37) := ⟨_, rfl⟩
          have hk6 : Keeps nowhere wr w6 := by rw [hw6]; exact (Keeps.refl nowhere wr).alloc _
          have hb6 : Blk w6 q 37 #[.int .i64 op, .int .i64 page, .int .i64 num, .int .u16 v, .slice kA2 kn2 kc2] := by rw [hw6, hq]; exact Blk.new _ _ _
          have mid7 := hmid.same hk6
          have hgl : ∀ x, g = some x → x < w.heap.size := by
            obtain ⟨_, _, -, -, -, hu, -⟩ := id hkr4
            exact hu
          have hkrx : ∀ wx, Keeps nowhere w wx → recBo.Rd wx (.slice kA2 kn2 kc2) g keep := fun wx hk => by rw [hkn2]; exact hkr4.same hk
          have Hmid := Lib.hid hmid
          have Ht := Lib.hid ht
          have Hkr4 := Lib.hid hkr4
          have Hw6 := Lib.hid hw6
          have Hk6 := Lib.hid hk6
          have Hb6 := Lib.hid hb6
          have Mid7 := Lib.hid mid7
          have Hkn2 := Lib.hid hkn2
          have Hq := Lib.hid hq
          have Hkp100 := Lib.hid hkp100
          have Hgl := Lib.hid hgl
          have Hkrx := Lib.hid hkrx
          have Ho := Lib.hid ho
          clear hmid ht hkr4 hw6 hk6 hb6 mid7 hkn2 hq hkp100 hgl hkrx ho
          go_upto_block 4 with fail
          rw [← Hw6.out]
          simp only [← Hq.out]
          clear c0 c1 c2 c3 c4
          go_cut [11, 13, 14, 17, 18, 19, 20, 21, 22, 23, 24] from 87 to 191 (fun kv nv cv dv mv _ _ _ _ _ _ wx => ∃ (F M : Nat → Prop) (D : DiskV) (B : BookV) (vals nowL : List (List UInt8)) (dn cm : Bool), dv = .bool dn ∧ mv = .bool cm ∧ Mid w wx d s N i (j + 1) kv nv cv F M D B vals nowL ∧ D.off = dn ∧ (dn = false → nowL = curV B vals) ∧ Blk wx q 37 #[.int .i64 op, .int .i64 page, .int .i64 num, .int .u16 v, .slice kA2 kn2 kc2])
          case first =>
            have b0 := Hb6.out.cell 0
            have b1 := Hb6.out.cell 1
            have b2 := Hb6.out.cell 2
            have b3 := Hb6.out.cell 3
            have b4 := Hb6.out.cell 4
            simp at b0 b1 b2 b3 b4
            by_cases o1 : op = 1
            · subst o1
              have hpg := page_any v w6 hv
              have h7 := Mid7.out.pk
              have hz7 := Mid7.out.pv.bsz
              by_cases hbad : page < 0 ∨ (i : Int) ≤ page
              · have hwk : writeOk B page (pageL v) = false := by
                  unfold writeOk inP
                  rw [h7, Bool.and_eq_false_iff]
                  left
                  exact decide_eq_false (by omega)
                have hwE : writeE B page (pageL v) = 1 := by unfold writeE; rw [if_neg (by simp [hwk])]
                have hwB : writeB B page (pageL v) = B := by unfold writeB; rw [if_neg (by simp [hwk])]
                have hcl7 := Mid7.out.pv.ch.le
                have Hpg := Lib.hid hpg
                have Hwk := Lib.hid hwk
                have HwE := Lib.hid hwE
                have HwB := Lib.hid hwB
                have H7 := Lib.hid h7
                have Hz7 := Lib.hid hz7
                have Hcl7 := Lib.hid hcl7
                clear hpg hwk hwE hwB h7 hz7 hcl7
                rcases hbad with hbd | hbd
                · as_aux_lemma =>
                    have hbd2 : decide (page < 0) = true := decide_eq_true hbd
                    go_wp2_with fail
                    refine Hpg.out.mono ?_
                    rintro e w8 ⟨rfl, hk8⟩
                    have b1' := (Hb6.out.keep hk8 (fun h => h)).cell 1
                    simp at b1'
                    obtain ⟨cv, w9, hcv, hrv, hkv⟩ := conv_bytes (pageL v) (by rw [pageL_len]; omega) w8
                    rw [pageL_len] at hcv hrv
                    have mid9 := (Mid7.out.same hk8).same hkv
                    have hb9 := (Hb6.out.keep hk8 (fun h => h)).keep hkv (fun h => h)
                    have hwr := pm_write page _ 48 cv _ (pageL v) mid9.pm (mid9.pv.ok (by omega) (by omega)) hrv (by have := Hcl7.out; have := H7.out; omega)
                    rw [HwB.out, HwE.out] at hwr
                    unfold bp at hwr
                    have Mid9 := Lib.hid mid9
                    have Hwr := Lib.hid hwr
                    have Hrv := Lib.hid hrv
                    have Hkv := Lib.hid hkv
                    have Hk8 := Lib.hid hk8
                    have Hb9 := Lib.hid hb9
                    clear mid9 hwr hrv hkv hk8 hb9
                    go_wp2_with fail
                    clear hcv b1'
                    refine Hwr.out.mono ?_
                    rintro e wa ⟨rfl, M8, pm8, st8⟩
                    have mid8 := Mid9.out.step st8 pm8 Mid9.out.pv Mid9.out.a2 Mid9.out.nr Mid9.out.pk
                    have hb8 := st8.blk Mid9.out.pm Hb9.out
                    have Mid8 := Lib.hid mid8
                    have Hb8 := Lib.hid hb8
                    have Pm8 := Lib.hid pm8
                    have St8 := Lib.hid st8
                    clear mid8 hb8 pm8 st8
                    go_wp2_with fail
                    go_meet
                    case rel => exact ⟨F, M8, D, B, vals, _, false, false, rfl, rfl, Mid8.out.more (by omega), Ho.out, fun _ => rfl, Hb8.out⟩
                · as_aux_lemma =>
                    have hnb : ¬ page < 0 := by omega
                    have hbd2 : page ≥ (i : Int) := hbd
                    go_wp2_with fail
                    refine Hpg.out.mono ?_
                    rintro e w8 ⟨rfl, hk8⟩
                    have b1' := (Hb6.out.keep hk8 (fun h => h)).cell 1
                    simp at b1'
                    obtain ⟨cv, w9, hcv, hrv, hkv⟩ := conv_bytes (pageL v) (by rw [pageL_len]; omega) w8
                    rw [pageL_len] at hcv hrv
                    have mid9 := (Mid7.out.same hk8).same hkv
                    have hb9 := (Hb6.out.keep hk8 (fun h => h)).keep hkv (fun h => h)
                    have hwr := pm_write page _ 48 cv _ (pageL v) mid9.pm (mid9.pv.ok (by omega) (by omega)) hrv (by have := Hcl7.out; have := H7.out; omega)
                    rw [HwB.out, HwE.out] at hwr
                    unfold bp at hwr
                    have Mid9 := Lib.hid mid9
                    have Hwr := Lib.hid hwr
                    have Hrv := Lib.hid hrv
                    have Hkv := Lib.hid hkv
                    have Hk8 := Lib.hid hk8
                    have Hb9 := Lib.hid hb9
                    clear mid9 hwr hrv hkv hk8 hb9
                    go_wp2_with fail
                    clear hcv b1'
                    refine Hwr.out.mono ?_
                    rintro e wa ⟨rfl, M8, pm8, st8⟩
                    have mid8 := Mid9.out.step st8 pm8 Mid9.out.pv Mid9.out.a2 Mid9.out.nr Mid9.out.pk
                    have hb8 := st8.blk Mid9.out.pm Hb9.out
                    have Mid8 := Lib.hid mid8
                    have Hb8 := Lib.hid hb8
                    have Pm8 := Lib.hid pm8
                    have St8 := Lib.hid st8
                    clear mid8 hb8 pm8 st8
                    go_wp2_with fail
                    go_meet
                    case rel => exact ⟨F, M8, D, B, vals, _, false, false, rfl, rfl, Mid8.out.more (by omega), Ho.out, fun _ => rfl, Hb8.out⟩
              · as_aux_lemma =>
                  have hp0 : 0 ≤ page := by omega
                  obtain ⟨p, rfl⟩ := Int.eq_ofNat_of_zero_le hp0
                  have hpi : p < i := by omega
                  have hn0 : ¬ (p : Int) < 0 := by omega
                  have hn1 : ¬ (i : Int) ≤ (p : Int) := by omega
                  have hpI : (p : Int) < (i : Int) := by omega
                  have hwk : writeOk B (p : Int) (pageL v) = true := by
                    unfold writeOk inP
                    rw [h7, pageL_len, hz7, decide_eq_true (by omega)]; rfl
                  have hwE : writeE B (p : Int) (pageL v) = 0 := by unfold writeE; rw [if_pos hwk]
                  have hwB : writeB B (p : Int) (pageL v) = { B with changed := putC B.changed p (pageL v) } := by unfold writeB; rw [if_pos hwk, Int.toNat_natCast]
                  have hcl7 := Mid7.out.pv.ch.le
                  have hvll : vals.length = i := by rw [Mid7.out.pv.lies.vlen]; exact h7
                  obtain ⟨nA, nc, hnv, -⟩ := Mid7.out.now.form
                  obtain ⟨L9, hchg, hL9⟩ := Mid7.out.chg
                  obtain ⟨cA, cc, hcv0, -⟩ := hchg.form
                  subst hnv hcv0
                  rw [hL9] at hchg
                  rw [curV_len, hvll]
                  rw [hL9]
                  clear hbad hp0
                  have Hpg := Lib.hid hpg
                  have Hwk := Lib.hid hwk
                  have HwE := Lib.hid hwE
                  have HwB := Lib.hid hwB
                  have H7 := Lib.hid h7
                  have Hz7 := Lib.hid hz7
                  have Hcl7 := Lib.hid hcl7
                  have Hvll := Lib.hid hvll
                  have Hchg := Lib.hid hchg
                  have HL9 := Lib.hid hL9
                  clear hpg hwk hwE hwB h7 hz7 hcl7 hvll hchg hL9
                  go_wp2_with fail
                  refine Hpg.out.mono ?_
                  rintro e w8 ⟨rfl, hk8⟩
                  have b1' := (Hb6.out.keep hk8 (fun h => h)).cell 1
                  simp at b1'
                  obtain ⟨cv, w9, hcv, hrv, hkv⟩ := conv_bytes (pageL v) (by rw [pageL_len]; omega) w8
                  rw [pageL_len] at hcv hrv
                  have mid9 := (Mid7.out.same hk8).same hkv
                  have hwr := pm_write (p : Int) _ 48 cv _ (pageL v) mid9.pm (mid9.pv.ok (by omega) (by omega)) hrv (by have := Hcl7.out; have := H7.out; omega)
                  rw [HwB.out, HwE.out] at hwr
                  unfold bp at hwr
                  have hb9 := (Hb6.out.keep hk8 (fun h => h)).keep hkv (fun h => h)
                  have Mid9 := Lib.hid mid9
                  have Hwr := Lib.hid hwr
                  have Hrv := Lib.hid hrv
                  have Hkv := Lib.hid hkv
                  have Hk8 := Lib.hid hk8
                  have Hb9 := Lib.hid hb9
                  clear mid9 hwr hrv hkv hk8 hb9
                  go_wp2_with fail
                  clear hcv b1'
                  refine Hwr.out.mono ?_
                  rintro e wa ⟨rfl, M8, pma, sta⟩
                  have mida : Mid w wa d s N i j _ _ _ F M8 D { B with changed := putC B.changed p (pageL v) } vals (curV B vals) := Mid9.out.step sta pma (Mid9.out.pv.chg (Mid9.out.pv.ch.put (by rw [H7.out]; exact hpi) (by rw [pageL_len, Hz7.out]))) Mid9.out.a2 Mid9.out.nr Mid9.out.pk
                  have hba := sta.blk Mid9.out.pm Hb9.out
                  have ba1 := hba.cell 1
                  simp at ba1
                  have hwt := fun wx (hk : Keeps nowhere wa wx) => with_any nA i nc _ (curV B vals) p (pageL v) wx (by
                    have := (mida.now.rd).same hk
                    rw [curV_len, Hvll.out] at this
                    exact this) (by rw [curV_len, Hvll.out]; exact hpi) (by rw [curV_len, Hvll.out]; omega)
                  have hwt1 := hwt wa (Keeps.refl _ _)
                  have hrowa := sta.raw Mid9.out.pm ((Hchg.out.same Hk8.out).same Hkv.out) (.inr rfl)
                  have Mida := Lib.hid mida
                  have Hba := Lib.hid hba
                  have Hwt := Lib.hid hwt
                  have Hwt1 := Lib.hid hwt1
                  have Pma := Lib.hid pma
                  have Sta := Lib.hid sta
                  have Hrowa := Lib.hid hrowa
                  clear mida hba hwt hwt1 pma sta hrowa
                  go_wp2_with fail
                  refine Hwt1.out.mono ?_
                  rintro e wb ⟨nv2, rfl, hnow2, hab2, hkb⟩
                  have hrowb := Hrowa.out.same hkb
                  obtain ⟨bq, hcA, ⟨u9, cu9⟩, fu9, hrowc, hkc⟩ := setCh hrowb (i := p) (by rw [HL9.out]; exact hpi) true
                  subst hcA
                  have hbb := Hba.out.keep hkb (fun h => h)
                  have bb1 := hbb.cell 1
                  simp at bb1
                  have hoc : w.heap.size ≤ bq := Mida.out.oc bq rfl
                  have hbqq : bq ≠ q := fun e => by
                    have := own_blk_ne hrowb hbb (by decide)
                    rw [e] at this
                    exact this rfl
                  obtain ⟨nA2, nc2, hnv2, -⟩ := hnow2.form
                  subst hnv2
                  rw [List.length_set] at hnow2 hab2 ⊢
                  have midb := (Mida.out.same hkb).nowRow hnow2
                  obtain ⟨wc, hwc⟩ : ∃ wc, wc = wb.setCell ⟨bq, p, none⟩ (.bool true) := ⟨_, rfl⟩
                  rw [← hwc] at hrowc hkc
                  rw [HL9.out] at midb
                  have midc := midb.setChg hrowb hkc hrowc (by rw [List.length_set]; exact HL9.out)
                  have hbc := hbb.keep hkc (fun e => hbqq (show q = bq from e).symm)
                  have hcv : (curV B vals).set p (pageL v) = curV { B with changed := putC B.changed p (pageL v) } vals := curV_put.symm
                  clear hrowb hrowc hkc hnow2 hab2 midb
                  have Midc := Lib.hid midc
                  have Hbc := Lib.hid hbc
                  have Hcv := Lib.hid hcv
                  have Hwc := Lib.hid hwc
                  have Hkb := Lib.hid hkb
                  have Hbb := Lib.hid hbb
                  have Hoc := Lib.hid hoc
                  have Hbqq := Lib.hid hbqq
                  clear midc hbc hcv hwc hkb hbb hoc hbqq
                  go_wp2_with fail
                  rw [← Hwc.out]
                  go_meet
                  case rel => exact ⟨F, M8, D, _, vals, _, false, false, rfl, rfl, Midc.out.more (by omega), Ho.out, fun _ => Hcv.out, Hbc.out⟩
            · have o1b : (op == 1) = false := by simp [o1]
              by_cases o2 : op = 2
              · subst o2
                have hcm := pm_commit Mid7.out.pm Mid7.out.pv Ho.out (by omega) (by omega) (by omega)
                unfold bp at hcm
                obtain ⟨r, hr⟩ : ∃ r, r = (commitR B D).1 := ⟨_, rfl⟩
                rw [← hr] at hcm
                obtain ⟨s1, s2, s3, s4⟩ := commitB_same B D
                rcases Mid7.out.pv.commit Ho.out (by omega) with ⟨e0, h1, h2, h3⟩ | ⟨e0, h1, h2, h3⟩
                · as_aux_lemma =>
                    obtain rfl : r = 0 := hr.trans e0
                    have hcl := curV_lens Mid7.out.pv.ch Mid7.out.pv.bsz Mid7.out.vl
                    have hnw := curV_nil (vals := curV B vals) h3
                    have Hcm := Lib.hid hcm
                    have Hr := Lib.hid hr
                    have S1 := Lib.hid s1
                    have S2 := Lib.hid s2
                    have S3 := Lib.hid s3
                    have S4 := Lib.hid s4
                    have E0 := Lib.hid e0
                    have H1 := Lib.hid h1
                    have H2 := Lib.hid h2
                    have H3 := Lib.hid h3
                    have Hcl := Lib.hid hcl
                    have Hnw := Lib.hid hnw
                    clear hcm hr s1 s2 s3 s4 e0 h1 h2 h3 hcl hnw
                    go_wp2_with fail
                    refine Hcm.out.mono ?_
                    rintro e w8 ⟨rfl, F8, M8, pm8, st8⟩
                    have mid8 : Mid w w8 d s N i (j + 1) u13 u13 u14 F8 M8 (commitR B D).2 (commitB B D) (curV B vals) (curV B vals) := by
                      obtain ⟨L9, g1, g2⟩ := Mid7.out.chg
                      have hrw := st8.str Mid7.out.pm Mid7.out.now
                      exact ⟨pm8, H1.out.mono (by omega) (by omega), S1.out.trans Mid7.out.a2, by rw [S2.out]; exact Mid7.out.nr, S4.out.trans Mid7.out.pk, hrw, hrw, ⟨L9, st8.raw Mid7.out.pm g1 (.inr rfl), g2⟩, Mid7.out.oc, Hcl.out⟩
                    have hb8 := st8.blk Mid7.out.pm Hb6.out
                    have Mid8 := Lib.hid mid8
                    have Hb8 := Lib.hid hb8
                    have Pm8 := Lib.hid pm8
                    have St8 := Lib.hid st8
                    clear mid8 hb8 pm8 st8
                    go_wp2_with (at_make; refine recBo.wpList_make_one false (.bool false) rfl rfl Tryz.underlying34 infoBo (by omega) _ rfl _ _ rfl i (i : Int) rfl rfl rfl (by omega) ?_)
                    intro w9 hx9 hk9
                    have mid9 := Mid8.out.chgRow hk9 (Nat.le_refl _) hx9
                    have hb9 := Hb8.out.keep hk9 (fun h => h)
                    clear hx9
                    have Mid9 := Lib.hid mid9
                    have Hb9 := Lib.hid hb9
                    have Hk9 := Lib.hid hk9
                    clear mid9 hb9 hk9
                    go_wp2_with fail
                    go_meet
                    case rel => exact ⟨F8, M8, _, _, curV B vals, curV B vals, false, true, rfl, rfl, Mid9.out, H2.out, fun _ => Hnw.out.symm, Hb9.out⟩
                · as_aux_lemma =>
                    obtain rfl : r = 22 := hr.trans e0
                    have Hcm := Lib.hid hcm
                    have Hr := Lib.hid hr
                    have S1 := Lib.hid s1
                    have S2 := Lib.hid s2
                    have S3 := Lib.hid s3
                    have S4 := Lib.hid s4
                    have E0 := Lib.hid e0
                    have H1 := Lib.hid h1
                    have H2 := Lib.hid h2
                    have H3 := Lib.hid h3
                    clear hcm hr s1 s2 s3 s4 e0 h1 h2 h3
                    go_wp2_with fail
                    refine Hcm.out.mono ?_
                    rintro e w8 ⟨rfl, F8, M8, pm8, st8⟩
                    rw [H3.out] at pm8
                    have mid8 := Mid7.out.step (c' := j + 1) st8 pm8 (H1.out.mono (by omega) (by omega)) Mid7.out.a2 Mid7.out.nr Mid7.out.pk
                    have hb8 := st8.blk Mid7.out.pm Hb6.out
                    have Mid8 := Lib.hid mid8
                    have Hb8 := Lib.hid hb8
                    have Pm8 := Lib.hid pm8
                    have St8 := Lib.hid st8
                    clear mid8 hb8 pm8 st8
                    go_wp2_with fail
                    go_meet
                    case rel => exact ⟨F8, M8, _, _, vals, _, true, true, rfl, rfl, Mid8.out, H2.out, fun e => (by cases e), Hb8.out⟩
              · have o2b : (op == 2) = false := by simp [o2]
                by_cases o3 : op = 3
                · as_aux_lemma =>
                    subst o3
                    have hab := pm_abort Mid7.out.pm
                    unfold bp at hab
                    have Hab := Lib.hid hab
                    clear hab
                    go_wp2_with fail
                    refine Hab.out.mono ?_
                    rintro e w8 ⟨rfl, M8, pm8, st8⟩
                    have mid8 := Mid7.out.step st8 pm8 (Mid7.out.pv.chg (ChOk.nil B)) Mid7.out.a2 Mid7.out.nr Mid7.out.pk
                    have hb8 := st8.blk Mid7.out.pm Hb6.out
                    have hoff := dk_off pm8.dk
                    rw [Ho.out] at hoff
                    unfold dp at hoff
                    have Mid8 := Lib.hid mid8
                    have Hb8 := Lib.hid hb8
                    have Hoff := Lib.hid hoff
                    have Pm8 := Lib.hid pm8
                    have St8 := Lib.hid st8
                    clear mid8 hb8 hoff pm8 st8
                    go_wp2_with fail
                    refine Hoff.out.mono ?_
                    rintro e w9 ⟨rfl, rfl⟩
                    go_wp2_with (at_make; refine recBo.wpList_make_one false (.bool false) rfl rfl Tryz.underlying34 infoBo (by omega) _ rfl _ _ rfl i (i : Int) rfl rfl rfl (by omega) ?_)
                    intro w9 hx9 hk9
                    have mid9 := (Mid8.out.nowKept).chgRow hk9 (Nat.le_refl _) hx9
                    have hb9 := Hb8.out.keep hk9 (fun h => h)
                    clear hx9
                    have Mid9 := Lib.hid mid9
                    have Hb9 := Lib.hid hb9
                    have Hk9 := Lib.hid hk9
                    clear mid9 hb9 hk9
                    go_wp2_with fail
                    go_meet
                    case rel => exact ⟨F, M8, D, _, vals, vals, false, false, rfl, rfl, Mid9.out.more (by omega), Ho.out, fun _ => (curV_nil rfl).symm, Hb9.out⟩
                · have o3b : (op == 3) = false := by simp [o3]
                  have hgF : ∀ x, g = some x → ¬ F x := fun x hx hf => by
                    have h1 := Mid7.out.pm.own x (.inl hf)
                    have h2 := Hgl.out x hx
                    omega
                  by_cases o4 : op = 4
                  · as_aux_lemma =>
                      subst o4
                      have hct := pm_cut (.slice kA2 kn2 kc2) g keep Mid7.out.pm (Mid7.out.pv.lok (by omega) (by omega)).ok (Hkrx.out w6 Mid7.out.pm.kp) hgF
                      unfold dp at hct
                      have Hct := Lib.hid hct
                      have HgF := Lib.hid hgF
                      clear hct hgF
                      go_wp2_with fail
                      refine Hct.out.mono ?_
                      rintro e w8 ⟨rfl, F8, pm8, st8⟩
                      have mid8 := Mid7.out.step st8 pm8 (Mid7.out.pv.cut keep) Mid7.out.a2 Mid7.out.nr Mid7.out.pk
                      have hb8 := st8.blk Mid7.out.pm Hb6.out
                      have Mid8 := Lib.hid mid8
                      have Hb8 := Lib.hid hb8
                      have Pm8 := Lib.hid pm8
                      have St8 := Lib.hid st8
                      clear mid8 hb8 pm8 st8
                      go_wp2_with fail
                      go_meet
                      case rel => exact ⟨F8, M, _, B, vals, _, true, false, rfl, rfl, Mid8.out.more (by omega), rfl, fun e => (by cases e), Hb8.out⟩
                  · have o4b : (op == 4) = false := by simp [o4]
                    by_cases o5 : op = 5
                    · as_aux_lemma =>
                        subst o5
                        have hct := pm_arm num (.slice kA2 kn2 kc2) g keep Mid7.out.pm (Hkrx.out w6 Mid7.out.pm.kp) (by have h9 : keep.length ≤ 100 := Hkp100.out; omega)
                        unfold dp at hct
                        have Hct := Lib.hid hct
                        have HgF := Lib.hid hgF
                        clear hct hgF
                        go_wp2_with fail
                        refine Hct.out.mono ?_
                        rintro e w8 ⟨rfl, F8, pm8, st8⟩
                        have mid8 := Mid7.out.step st8 pm8 (Mid7.out.pv.arming num hnum keep (by have h9 : keep.length ≤ 100 := Hkp100.out; omega)) Mid7.out.a2 Mid7.out.nr Mid7.out.pk
                        have hb8 := st8.blk Mid7.out.pm Hb6.out
                        have Mid8 := Lib.hid mid8
                        have Hb8 := Lib.hid hb8
                        have Pm8 := Lib.hid pm8
                        have St8 := Lib.hid st8
                        clear mid8 hb8 pm8 st8
                        go_wp2_with fail
                        go_meet
                        case rel => exact ⟨F8, M, _, B, vals, _, false, false, rfl, rfl, Mid8.out.more (by omega), Ho.out, fun _ => rfl, Hb8.out⟩
                    · have o5b : (op == 5) = false := by simp [o5]
                      go_wp2_with fail
                      go_meet
                      exact ⟨F, M, D, B, vals, _, false, false, rfl, rfl, Mid7.out.more (by omega), Ho.out, fun _ => rfl, Hb6.out⟩
          case rest =>
            obtain ⟨F, M, D, B, vals, nowL, dn, cm, rfl, rfl, hmid, hoff, hnow, hblk⟩ := hcut
            obtain ⟨kA3, kc3, hkv3, -⟩ := hmid.kept.form
            obtain ⟨nA3, nc3, hnv3, -⟩ := hmid.now.form
            subst hkv3 hnv3
            obtain ⟨kn3, hkn3⟩ : ∃ x, x = vals.length := ⟨_, rfl⟩
            obtain ⟨nn3, hnn3⟩ : ∃ x, x = nowL.length := ⟨_, rfl⟩
            rw [← hkn3, ← hnn3] at hmid
            rw [← hkn3, ← hnn3]
            have hof := dk_off hmid.pm.dk
            rw [hoff] at hof
            unfold dp at hof
            have b4 := hblk.cell 4
            simp at b4
            cases dn with
            | false =>
              as_aux_lemma =>
                have hcl := curV_lens hmid.pv.ch hmid.pv.bsz hmid.vl
                have hsh := shows_any hmid.pm hmid.pv hoff (by omega) (by omega) (by omega) nA3 nn3 nc3 _ nowL hmid.now.rd hcl
                rw [hnow rfl, decide_eq_true rfl] at hsh
                unfold bp at hsh
                rw [hnow rfl] at hmid
                have Hmid := Lib.hid hmid
                have Hof := Lib.hid hof
                have Hsh := Lib.hid hsh
                have Hcl := Lib.hid hcl
                have Hblk := Lib.hid hblk
                have Hoff := Lib.hid hoff
                have Hkn3 := Lib.hid hkn3
                have Hnn3 := Lib.hid hnn3
                clear hmid hof hsh hcl hblk hoff hkn3 hnn3
                go_wp2_with fail
                refine Hof.out.mono ?_
                rintro e w9 ⟨rfl, rfl⟩
                go_wp2_with fail
                refine Hsh.out.mono ?_
                rintro e wa ⟨rfl, hka⟩
                have mida := Hmid.out.same hka
                have Mida := Lib.hid mida
                have Hka := Lib.hid hka
                clear mida hka
                go_wp2_with fail
                exact ⟨⟨j + 1, s, F, M, D, B, vals, by simp, rfl, by omega, Mida.out, Hoff.out⟩, by simp [intOf]; omega⟩
            | true =>
              have hgF : ∀ x, g = some x → ¬ F x := fun x hx hf => by
                have h1 := hmid.pm.own x (.inl hf)
                have h2 := Hgl.out x hx
                omega
              have hct := pm_cut (.slice kA2 kn2 kc2) g keep hmid.pm (hmid.pv.lok (by omega) (by omega)).ok (Hkrx.out _ hmid.pm.kp) hgF
              unfold dp at hct
              have Hmid := Lib.hid hmid
              have Hof := Lib.hid hof
              have Hct := Lib.hid hct
              have HgF := Lib.hid hgF
              have Hblk := Lib.hid hblk
              have Hoff := Lib.hid hoff
              have Hkn3 := Lib.hid hkn3
              have Hnn3 := Lib.hid hnn3
              have Hnow := Lib.hid hnow
              clear hmid hof hct hgF hblk hoff hkn3 hnn3 hnow
              go_wp2_with fail
              refine Hof.out.mono ?_
              rintro e w9 ⟨rfl, rfl⟩
              go_wp2_with fail
              refine Hct.out.mono ?_
              rintro e wa ⟨rfl, F5, pm5, st5⟩
              have mid5 := Hmid.out.step st5 pm5 (Hmid.out.pv.cut keep) Hmid.out.a2 Hmid.out.nr Hmid.out.pk
              have hon := pm_on pm5
              unfold dp at hon
              have Pm5 := Lib.hid pm5
              have St5 := Lib.hid st5
              have Mid5 := Lib.hid mid5
              have Hon := Lib.hid hon
              clear pm5 st5 mid5 hon
              go_wp2_with fail
              refine Hon.out.mono ?_
              rintro e wb ⟨rfl, F6, pm6, st6⟩
              have mid6 := Mid5.out.step st6 pm6 Mid5.out.pv.on Mid5.out.a2 Mid5.out.nr Mid5.out.pk
              obtain ⟨D6, hD6⟩ : ∃ D6, D6 = (D.cut keep).on := ⟨_, rfl⟩
              rw [← hD6] at mid6
              have hoff6 : D6.off = false := by rw [hD6]; rfl
              have hop := pm_open mid6.pm mid6.pv hoff6 (by omega) (by omega) (by omega) 2 R mid6.a2.symm (by have := mid6.nr; omega)
              unfold dp bp at hop
              have Pm6 := Lib.hid pm6
              have St6 := Lib.hid st6
              have Mid6 := Lib.hid mid6
              have HD6 := Lib.hid hD6
              have Hoff6 := Lib.hid hoff6
              have Hop := Lib.hid hop
              clear pm6 st6 mid6 hD6 hoff6 hop
              go_wp2_with fail
              refine Hop.out.mono ?_
              rintro e wd ⟨s7, M7, rfl, pm7, hk7, -⟩
              have mid7 : Mid w wd d s7 N i (j + 1) (.slice kA3 kn3 kc3) (.slice nA3 nn3 nc3) u14 F6 M7 D6 { B with changed := [] } vals nowL := by
                have h7 := Mid6.out.same hk7
                exact ⟨pm7, Mid6.out.pv.chg (ChOk.nil B), h7.a2, h7.nr, h7.pk, h7.kept, h7.now, h7.chg, h7.oc, h7.vl⟩
              have Pm7 := Lib.hid pm7
              have Hk7 := Lib.hid hk7
              have Mid7 := Lib.hid mid7
              clear pm7 hk7 mid7
              cases cm with
              | false =>
                as_aux_lemma =>
                  have midx := Mid7.out.nowKept
                  have Midx := Lib.hid midx
                  clear midx
                  go_wp2_with (at_make; refine recBo.wpList_make_one false (.bool false) rfl rfl Tryz.underlying34 infoBo (by omega) _ rfl _ _ rfl i (i : Int) rfl rfl rfl (by omega) ?_)
                  intro wf hxf hkf
                  have midf := Midx.out.chgRow hkf (Nat.le_refl _) hxf
                  clear hxf
                  have hclf := curV_lens midf.pv.ch midf.pv.bsz midf.vl
                  have hcurf : curV { B with changed := [] } vals = vals := curV_nil rfl
                  have hshf := shows_any midf.pm midf.pv Hoff6.out (by omega) (by omega) (by omega) _ _ _ _ vals midf.now.rd hclf
                  rw [hcurf, decide_eq_true rfl] at hshf
                  unfold bp at hshf
                  have Midf := Lib.hid midf
                  have Hkf := Lib.hid hkf
                  have Hclf := Lib.hid hclf
                  have Hcurf := Lib.hid hcurf
                  have Hshf := Lib.hid hshf
                  clear midf hkf hclf hcurf hshf
                  go_wp2_with fail
                  refine Hshf.out.mono ?_
                  rintro e wg ⟨rfl, hkg⟩
                  have midg := Midf.out.same hkg
                  have Midg := Lib.hid midg
                  have Hkg := Lib.hid hkg
                  clear midg hkg
                  go_wp2_with fail
                  exact ⟨⟨j + 1, s7, F6, M7, D6, _, vals, by simp, rfl, by omega, by rw [Hcurf.out]; exact Midg.out, Hoff6.out⟩, by simp [intOf]; omega⟩
              | true =>
                have hcl7 := curV_lens Mid7.out.pv.ch Mid7.out.pv.bsz Mid7.out.vl
                have hcur7 : curV { B with changed := [] } vals = vals := curV_nil rfl
                have hsh := shows_any Mid7.out.pm Mid7.out.pv Hoff6.out (by omega) (by omega) (by omega) nA3 nn3 nc3 _ nowL Mid7.out.now.rd hcl7
                rw [hcur7] at hsh
                unfold bp at hsh
                by_cases heq : vals = nowL
                · as_aux_lemma =>
                    rw [decide_eq_true heq] at hsh
                    have Hcl7 := Lib.hid hcl7
                    have Hcur7 := Lib.hid hcur7
                    have Hsh := Lib.hid hsh
                    clear hcl7 hcur7 hsh
                    go_wp2_with fail
                    refine Hsh.out.mono ?_
                    rintro e we ⟨rfl, hke⟩
                    have midx := (Mid7.out.same hke).keptNow heq
                    have Heq := Lib.hid heq
                    have Hke := Lib.hid hke
                    clear heq hke
                    have Midx := Lib.hid midx
                    clear midx
                    go_wp2_with (at_make; refine recBo.wpList_make_one false (.bool false) rfl rfl Tryz.underlying34 infoBo (by omega) _ rfl _ _ rfl i (i : Int) rfl rfl rfl (by omega) ?_)
                    intro wf hxf hkf
                    have midf := Midx.out.chgRow hkf (Nat.le_refl _) hxf
                    clear hxf
                    have hclf := curV_lens midf.pv.ch midf.pv.bsz midf.vl
                    have hcurf : curV { B with changed := [] } vals = vals := curV_nil rfl
                    have hshf := shows_any midf.pm midf.pv Hoff6.out (by omega) (by omega) (by omega) _ _ _ _ vals midf.now.rd hclf
                    rw [hcurf, decide_eq_true rfl] at hshf
                    unfold bp at hshf
                    have Midf := Lib.hid midf
                    have Hkf := Lib.hid hkf
                    have Hclf := Lib.hid hclf
                    have Hcurf := Lib.hid hcurf
                    have Hshf := Lib.hid hshf
                    clear midf hkf hclf hcurf hshf
                    go_wp2_with fail
                    refine Hshf.out.mono ?_
                    rintro e wg ⟨rfl, hkg⟩
                    have midg := Midf.out.same hkg
                    have Midg := Lib.hid midg
                    have Hkg := Lib.hid hkg
                    clear midg hkg
                    go_wp2_with fail
                    exact ⟨⟨j + 1, s7, F6, M7, D6, _, vals, by simp, rfl, by omega, by rw [Hcurf.out]; exact Midg.out, Hoff6.out⟩, by simp [intOf]; omega⟩
                · as_aux_lemma =>
                    rw [decide_eq_false heq] at hsh
                    have Hcl7 := Lib.hid hcl7
                    have Hcur7 := Lib.hid hcur7
                    have Hsh := Lib.hid hsh
                    clear hcl7 hcur7 hsh
                    go_wp2_with fail
                    refine Hsh.out.mono ?_
                    rintro e we ⟨rfl, hke⟩
                    have midx := (Mid7.out.same hke).nowKept
                    have Heq := Lib.hid heq
                    have Hke := Lib.hid hke
                    clear heq hke
                    have Midx := Lib.hid midx
                    clear midx
                    go_wp2_with (at_make; refine recBo.wpList_make_one false (.bool false) rfl rfl Tryz.underlying34 infoBo (by omega) _ rfl _ _ rfl i (i : Int) rfl rfl rfl (by omega) ?_)
                    intro wf hxf hkf
                    have midf := Midx.out.chgRow hkf (Nat.le_refl _) hxf
                    clear hxf
                    have hclf := curV_lens midf.pv.ch midf.pv.bsz midf.vl
                    have hcurf : curV { B with changed := [] } vals = vals := curV_nil rfl
                    have hshf := shows_any midf.pm midf.pv Hoff6.out (by omega) (by omega) (by omega) _ _ _ _ vals midf.now.rd hclf
                    rw [hcurf, decide_eq_true rfl] at hshf
                    unfold bp at hshf
                    have Midf := Lib.hid midf
                    have Hkf := Lib.hid hkf
                    have Hclf := Lib.hid hclf
                    have Hcurf := Lib.hid hcurf
                    have Hshf := Lib.hid hshf
                    clear midf hkf hclf hcurf hshf
                    go_wp2_with fail
                    refine Hshf.out.mono ?_
                    rintro e wg ⟨rfl, hkg⟩
                    have midg := Midf.out.same hkg
                    have Midg := Lib.hid midg
                    have Hkg := Lib.hid hkg
                    clear midg hkg
                    go_wp2_with fail
                    exact ⟨⟨j + 1, s7, F6, M7, D6, _, vals, by simp, rfl, by omega, by rw [Hcurf.out]; exact Midg.out, Hoff6.out⟩, by simp [intOf]; omega⟩
        · obtain rfl : j = L := by omega
          have hltI : ¬ (j : Int) < j := by omega
          have hby := dk_bytes hmid.pm.dk (hmid.pv.lok (by omega) (by omega)).ok (by rw [hmid.pv.klen]; omega)
          have hfl := hmid.pm.dk.flat
          rw [hmid.pv.klen, hmid.pv.size] at hfl
          have hlen : ∀ M ∈ D.kept, M.length = 64 := fun M hM => by rw [hmid.pv.lies.len M hM]; exact hmid.pv.bsz
          have hz : ∀ x, x < 128 → D.kept.flatten[x]? = some 0 ∧ D.kept.flatten[N * 64 - 1 - x]? = some 0 := fun x hx => by
            have ha := hmid.a2
            have hn := hmid.nr
            exact ⟨flat_zero hlen (hmid.pv.out (x / 64) (by omega) (by omega)) rfl, flat_zero hlen (hmid.pv.out ((N * 64 - 1 - x) / 64) (by omega) (by omega)) rfl⟩
          obtain ⟨T, hT⟩ : ∃ T, T = N * 64 := ⟨_, rfl⟩
          rw [← hT] at hfl hz
          have hT2 : 256 ≤ T ∧ T ≤ 6400 := by omega
          have hkw := hmid.pm.kp
          unfold dp at hby
          clear hlen hj hlt
          have Hmid := Lib.hid hmid
          have Ho := Lib.hid ho
          have Hby := Lib.hid hby
          have Hfl := Lib.hid hfl
          have Hz := Lib.hid hz
          have HT := Lib.hid hT
          have Hkw := Lib.hid hkw
          clear hmid ho hby hfl hz hT hkw
          go_wp2_with fail
          refine Hby.out.mono ?_
          rintro e wa ⟨bv1, gb, rfl, hrb, -, hka⟩
          obtain ⟨bA, bc, rfl, -⟩ := id hrb
          rw [Hfl.out] at hrb ⊢
          have hTI : ((T : Int) ≥ 256) := by omega
          have eT : IntKind.i64.wrap ((T : Int) - 1) = ((T - 1 : Nat) : Int) := by rw [IntWalk.i64_in _ (by omega)]; omega
          have Hrb := Lib.hid hrb
          have Hka := Lib.hid hka
          clear hrb hka
          go_upto_region 90 with fail
          go_loopw [30] (fun iv wr => ∃ x : Nat, iv = .int .i64 x ∧ x ≤ 128 ∧ wr = wa) (fun iv _ => 128 - (intOf iv).toNat)
          case atStart => exact ⟨0, rfl, by omega, rfl⟩
          case round =>
            obtain ⟨x, rfl, hx, rfl⟩ := hrel
            by_cases hlt : x < 128
            · have hxI : (x : Int) < 128 := by omega
              have hx0 : (0 : Int) ≤ (x : Int) := by omega
              have hx1 : IntKind.i64.wrap ((x : Int) + 1) = x + 1 := IntWalk.i64_in _ (by omega)
              have hxT : (x : Int) < (T : Int) := by omega
              obtain ⟨y, hy⟩ : ∃ y, y = T - 1 - x := ⟨_, rfl⟩
              have eY : IntKind.i64.wrap (((T - 1 : Nat) : Int) - x) = (y : Int) := by rw [IntWalk.i64_in _ (by omega)]; omega
              have hyT : (y : Int) < (T : Int) := by omega
              have hy0 : (0 : Int) ≤ (y : Int) := by omega
              obtain ⟨z1, z2⟩ := Hz.out x hlt
              rw [← hy] at z2
              obtain ⟨b1, o1, hA1, cx⟩ := rdB_cell8 Hrb.out z1
              obtain ⟨b2, o2, hA2, cy⟩ := rdB_cell8 Hrb.out z2
              rw [hA1] at hA2
              injection hA2 with hA2
              injection hA2 with e1 e2
              subst e1 e2
              subst hA1
              rw [show bv 0 = .int .u8 0 from rfl] at cx cy
              clear z1 z2 hy
              go_wp2_with fail
              exact ⟨⟨x + 1, by simp, by omega, by trivial⟩, by simp [intOf]; omega⟩
            · obtain rfl : x = 128 := by omega
              go_wp2_with fail
              go_ret
              exact ⟨rfl, Hkw.out.more Hka.out⟩
theorem pagesPlay_walk (n : Nat) (A : Option Addr) (c : Nat) (l : List Act8) (w : World) (hn : n < 256) (hA : Act8Arr w A l) : Calls Tryz.prog 3 #[.int .u8 n, .slice A l.length c] w (YesD w) := by
  cases hf : fewV l with
  | true => exact pplay_any n A c l w hn hA hf
  | false => exact pplay_many n A c l w hA hf
end Go.Proofs.YtnddaildicmneaaGreat
