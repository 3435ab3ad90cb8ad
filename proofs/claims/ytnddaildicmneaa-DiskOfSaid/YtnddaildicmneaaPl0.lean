/-
  disk: the document's disk, in memory; the power goes.
-/
import Derived.Test.YtnddaildicmneaaDk20
import Derived.Test.YtnddaildicmneaaStr
namespace Go.Proofs.Ytnddaildicmneaa
open Go.Proofs Go.RowKit Go.Sort Go.Maps

def recStr : RecT (List UInt8) := ⟨9, 1, fun L => [.string (strOf L)], fun _ => rfl, fun _ u hu => by rw [List.mem_singleton.1 hu]; rfl, by decide⟩
def recLate : RecT (Nat × List UInt8) := ⟨109, 2, fun x => [.int .i64 x.1, .string (strOf x.2)], fun _ => rfl, fun _ u hu => by simp at hu; rcases hu with rfl | rfl <;> rfl, by decide⟩
theorem infoStr : (Try.prog.info? 9).map (fun i => (i.zero, i.size, i.bytes)) = some (some (.string ⟨#[]⟩), 1, 16) := by kernel_rfl
theorem infoLate : (Try.prog.info? 109).map (fun i => (i.zero, i.size, i.bytes)) = some (some (.agg #[.int .i64 0, .string ⟨#[]⟩]), 2, 24) := by kernel_rfl

structure PlV where
  size : Nat
  kept : List (List UInt8)
  now : List (List UInt8)
  wait : List (Nat × List UInt8)
  off : Bool
  arm : Int
  keep : List Bool
  writes : Nat
structure PAt (w0 w : World) (p : Nat) (kv nv wv kp : Value) (gk : Option Nat) (P : PlV) : Prop where
  box : Blk w p 62 #[.int .i64 P.size, kv, nv, wv, .bool P.off, .int .i64 P.arm, kp, .int .i64 P.writes]
  kept : recStr.Row w kv P.kept
  now : recStr.Row w nv P.now
  wait : recLate.Row w wv P.wait
  keep : recBo.Rd w kp gk P.keep
  hp : w0.heap.size ≤ p
  hg : ∀ b, gk = some b → b < w0.heap.size
  wlt : ∀ (i : Nat) (q : Nat × List UInt8), P.wait[i]? = some q → q.1 < P.kept.length
  nlen : P.now.length = P.kept.length
def PK (w0 w : World) (p : Nat) (P : PlV) : Prop := ∃ kv nv wv kp gk, PAt w0 w p kv nv wv kp gk P
section
variable {w0 w w' : World} {p : Nat} {kv nv wv kp : Value} {gk : Option Nat} {P : PlV} {S : Nat → Prop}
theorem PAt.keepAll (h : PAt w0 w p kv nv wv kp gk P) (hk : Keeps S w w') (hp : ¬ S p) (hs : ∀ b, recStr.t = 9 → S b → kv.ownBlock ≠ some b ∧ nv.ownBlock ≠ some b ∧ wv.ownBlock ≠ some b) (h0 : ∀ b, S b → w0.heap.size ≤ b) : PAt w0 w' p kv nv wv kp gk P :=
  { h with
    box := h.box.keep hk hp
    kept := h.kept.keep hk (fun b e hS => (hs b rfl hS).1 e)
    now := h.now.keep hk (fun b e hS => (hs b rfl hS).2.1 e)
    wait := h.wait.keep hk (fun b e hS => (hs b rfl hS).2.2 e)
    keep := h.keep.keep hk (fun b e hS => by have := h.hg b e; have := h0 b hS; omega) }
theorem PAt.same (h : PAt w0 w p kv nv wv kp gk P) (hk : Keeps nowhere w w') : PAt w0 w' p kv nv wv kp gk P := h.keepAll hk (fun h => h) (fun _ _ h => h.elim) (fun _ h => h.elim)
theorem PK.same (h : PK w0 w p P) (hk : Keeps nowhere w w') : PK w0 w' p P := by
  obtain ⟨kv, nv, wv, kp, gk, h⟩ := h
  exact ⟨kv, nv, wv, kp, gk, h.same hk⟩
theorem PAt.cell (h : PAt w0 w p kv nv wv kp gk P) (k : Nat) : w.cell? ⟨p, k, none⟩ = (#[.int .i64 P.size, kv, nv, wv, .bool P.off, .int .i64 P.arm, kp, .int .i64 P.writes] : Array Value)[k]? := h.box.cell k
theorem row_own_ne {α : Type} {R : RecT α} {v : Value} {l : List α} (h : R.Row w v l) {q : Nat} {T : TypeId} {cs : Array Value} (hb : Blk w q T cs) (ht : R.t ≠ T) : v.ownBlock ≠ some q := own_blk_ne h hb ht
/-- fields of it are set -/
theorem PAt.turn (h : PAt w0 w p kv nv wv kp gk P) (hk : Keeps (only p) w w') {kv' nv' wv' kp' : Value} {gk' : Option Nat} {P' : PlV}
    (hb : Blk w' p 62 #[.int .i64 P'.size, kv', nv', wv', .bool P'.off, .int .i64 P'.arm, kp', .int .i64 P'.writes])
    (h1 : recStr.Row w kv' P'.kept) (h2 : recStr.Row w nv' P'.now) (h3 : recLate.Row w wv' P'.wait) (h4 : recBo.Rd w kp' gk' P'.keep) (h5 : ∀ b, gk' = some b → b < w0.heap.size)
    (h6 : ∀ (i : Nat) (q : Nat × List UInt8), P'.wait[i]? = some q → q.1 < P'.kept.length) (h7 : P'.now.length = P'.kept.length) : PAt w0 w' p kv' nv' wv' kp' gk' P' where
  box := hb
  kept := h1.keep hk (fun b e hs => by have e2 : b = p := hs; subst e2; exact row_own_ne h1 h.box (by decide) e)
  now := h2.keep hk (fun b e hs => by have e2 : b = p := hs; subst e2; exact row_own_ne h2 h.box (by decide) e)
  wait := h3.keep hk (fun b e hs => by have e2 : b = p := hs; subst e2; exact row_own_ne h3 h.box (by decide) e)
  keep := h4.keep hk (fun b e hs => by have e2 : b = p := hs; have := h5 b e; have := h.hp; omega)
  hp := h.hp
  hg := h5
  wlt := h6
  nlen := h7
/-- across a method of a disk -/
theorem PAt.disk (h : PAt w0 w p kv nv wv kp gk P) {d : Nat} {F : Nat → Prop} {D : DiskV} (o : DOwn w0 w d F D) (hF : ¬ F p) (hk : Keeps F w w') : PAt w0 w' p kv nv wv kp gk P := by
  obtain ⟨b, kvd, kpd, ks, vs, hFe, hd⟩ := o.k
  refine h.keepAll hk hF (fun k _ hk => ?_) o.own
  subst hFe
  have key : ∀ {α : Type} {R : RecT α} {v : Value} {l : List α}, R.Row w v l → R.t ≠ 97 → R.t ≠ 41 → v.ownBlock ≠ some k := fun {α R v l} hr h1 h2 e => by
    rcases hk with e2 | e2 | e2
    · subst e2; exact own_blk_ne hr hd.box h1 e
    · subst e2
      rcases hr.blk with ⟨rfl, -⟩ | ⟨b', c', rest, rfl, hb2, -⟩
      · simp [Value.ownBlock] at e
      · simp only [Value.ownBlock, Option.some.injEq] at e
        subst e
        exact hd.map.ne_blk hb2 rfl
    · rcases hd.kept.blk with ⟨rfl, -⟩ | ⟨b2, c2, rest, rfl, hb2, -⟩
      · simp [Value.ownBlock] at e2
      · simp only [Value.ownBlock, Option.some.injEq] at e2
        subst e2
        exact own_blk_ne hr hb2 h2 e
  exact ⟨key h.kept (by decide) (by decide), key h.now (by decide) (by decide), key h.wait (by decide) (by decide)⟩
end
def PlV.power (P : PlV) (keep : List Bool) : PlV := ⟨P.size, settleN (kfOf keep) P.wait P.kept P.wait.length, settleN (kfOf keep) P.wait P.kept P.wait.length, [], true, 0, P.keep, P.writes⟩
section
variable {w0 w : World} {p : Nat} {kv nv wv kp : Value} {gk : Option Nat} {P : PlV}
theorem kfOf_true {keep : List Bool} {i : Nat} (h : kfOf keep i = true) : keep[i]? = some true := by
  unfold kfOf at h
  cases hh : keep[i]? with
  | none => rw [hh] at h; cases h
  | some v => rw [hh] at h; simpa using h
theorem kfOf_false {keep : List Bool} {i : Nat} (h : kfOf keep i = false) (hl : i < keep.length) : keep[i]? = some false := by
  have hh : keep[i]? = some (keep[i]) := List.getElem?_eq_getElem _
  unfold kfOf at h
  rw [hh] at h ⊢
  simpa using h
set_option maxRecDepth 20000 in
set_option maxHeartbeats 8000000 in
theorem ppower_any (A0 : Option Addr) (c0 : Nat) (g : Option Nat) (keep : List Bool) (h : PAt w0 w p kv nv wv kp gk P) (hr : recBo.Rd w (.slice A0 keep.length c0) g keep) (hw : P.wait.length ≤ 100000) (hn : P.kept.length ≤ 100000) :
    Calls Try.prog 32 #[.pointer (some ⟨p, 0, none⟩), .slice A0 keep.length c0] w fun e w' => e = .returned (.tuple #[]) ∧ PK w0 w' p (P.power keep) ∧ Keeps (only p) w w' := by
  obtain ⟨nk, hnk⟩ : ∃ n, n = keep.length := ⟨_, rfl⟩
  obtain ⟨m, hm⟩ : ∃ m, m = P.wait.length := ⟨_, rfl⟩
  obtain ⟨n, hnn⟩ : ∃ n, n = P.kept.length := ⟨_, rfl⟩
  obtain ⟨Ak, ck, hkv, -⟩ := h.kept.form
  obtain ⟨Aw, cw, hwv, -⟩ := h.wait.form
  rw [← hnk] at hr ⊢
  rw [← hm] at hw hwv
  rw [← hnn] at hn hkv
  subst hkv hwv
  have hka := (Keeps.refl nowhere w).alloc (.cells #[] 9)
  have c1 := (h.same hka).cell 1
  simp only [List.getElem?_toArray, List.getElem?_cons_succ, List.getElem?_cons_zero] at c1
  have hE := RecT.Row.empty recStr w
  have hkr := (h.same hka).kept.rd
  have hlb : ([] : List (List UInt8)).length + P.kept.length ≤ 100000000 := by simp; omega
  have H := Lib.hid h
  have Hr := Lib.hid hr
  have Hnk := Lib.hid hnk
  have Hm := Lib.hid hm
  have Hnn := Lib.hid hnn
  have Hka := Lib.hid hka
  have HE := Lib.hid hE
  have Hkr := Lib.hid hkr
  have Hlb := Lib.hid hlb
  clear h hr hnk hm hnn hka hE hkr hlb
  go_enter Try.func32, Try.ntmps32
  go_wp2_with (at_builtin; go_must (refine RecT.wpList_append (R := recStr) Try.underlying59 infoStr rfl (by decide) rfl (.tmp 6) (.tmp 10) rfl _ [] rfl HE.out _ _ P.kept rfl Hkr.out Hlb.out ?_))
  intro v1 w1 hrow hk1 hf1
  try rw [List.nil_append] at hrow
  obtain ⟨A1, c1', hv1, -⟩ := hrow.form
  rw [← Hnn.out] at hv1
  have hab : ∀ b, A1 = some b → w.heap.size ≤ b.block := fun b e => by
    rcases hf1 b.block (by rw [hv1, e]; rfl) with h | h
    · simp [Value.ownBlock] at h; omega
    · (try simp at h); omega
  have hkw1 : Keeps nowhere w w1 := Hka.out.trans hk1 (fun k hk e => by simp [Value.ownBlock] at e; omega)
  subst hv1
  clear hk1 hf1
  have Hrow := Lib.hid hrow
  have Hab := Lib.hid hab
  have Hkw1 := Lib.hid hkw1
  clear hrow hab hkw1
  clear c1
  go_wp2_with fail
  go_loopw [5] (fun iv wr => ∃ i : Nat, iv = .int .i64 i ∧ i ≤ m ∧ recStr.Row wr (.slice A1 n c1') (settleN (kfOf keep) P.wait P.kept i) ∧ Keeps nowhere w wr) (fun iv _ => m - (intOf iv).toNat)
  case atStart => exact ⟨0, rfl, Nat.zero_le _, Hrow.out, Hkw1.out⟩
  case round =>
    obtain ⟨i, rfl, hi, hR, hkw⟩ := hrel
    have hP := H.out.same hkw
    have c3 := hP.cell 3
    simp only [List.getElem?_toArray, List.getElem?_cons_succ, List.getElem?_cons_zero] at c3
    by_cases hlt : i < m
    · have hltI : (i : Int) < m := by omega
      have hi0 : (0 : Int) ≤ (i : Int) := by omega
      have hi1 : IntKind.i64.wrap ((i : Int) + 1) = i + 1 := IntWalk.i64_in _ (by omega)
      obtain ⟨⟨x, L⟩, hq⟩ : ∃ q, P.wait[i]? = some q := ⟨_, List.getElem?_eq_getElem (by rw [← Hm.out]; exact hlt)⟩
      have hxn : x < n := by rw [Hnn.out]; exact hP.wlt i _ hq
      cases hk : kfOf keep i with
      | true =>
        have hst : settleN (kfOf keep) P.wait P.kept (i + 1) = (settleN (kfOf keep) P.wait P.kept i).set x L := by rw [settle_step hq, if_pos hk]
        have hkk := kfOf_true hk
        obtain ⟨bc, oc, hCc, cc⟩ := rdBo_cell Hr.out hkw hkk
        have hil : i < nk := by have := (List.getElem?_eq_some_iff.1 hkk).1; have := Hnk.out; omega
        have hilI : (i : Int) < nk := by omega
        subst hCc
        rcases hP.wait.blk with ⟨hv0, h0⟩ | ⟨bw, capw, restw, hvw, hbw, -, -, -⟩
        · rw [h0] at hq; simp at hq
        injection hvw with e1 e2 e3
        subst e1 e3
        clear e2
        have hat := RecT.Row.at_ (b := bw) (cap := cw) (n := m) hP.wait hq
        have d0 := hat 0 (by decide)
        have d1 := hat 1 (by decide)
        rw [show i * recLate.n = i * 2 from rfl] at d0 d1
        simp only [recLate, List.getElem?_cons_zero, List.getElem?_cons_succ, Nat.add_zero] at d0 d1
        have hlenR : (settleN (kfOf keep) P.wait P.kept i).length = n := by rw [settleN_len, Hnn.out]
        rcases hR.blk with ⟨hv0, h0⟩ | ⟨bl, capl, restl, hvl, hbl, -, -, -⟩
        · rw [h0] at hlenR; simp at hlenR; omega
        injection hvl with e4 e5 e6
        subst e4 e6
        clear e5
        have hR' := hR
        rw [← hlenR] at hR'
        obtain ⟨hcs, hR2, hk2⟩ := hR'.store (i := x) (by rw [hlenR]; exact hxn) L
        obtain ⟨⟨u, hu⟩, hf⟩ := hcs 0 (by decide)
        have ew : wr.setCells bl (x * recStr.n) (recStr.cs L) = wr.setCell ⟨bl, x, none⟩ (.string (strOf L)) := by show wr.setCell ⟨bl, x * 1, none⟩ _ = _; rw [Nat.mul_one]
        rw [ew, hlenR, ← hst] at hR2
        rw [ew] at hk2
        rw [Nat.add_zero, show x * recStr.n = x from Nat.mul_one x] at hu hf
        have hblw : w.heap.size ≤ bl := Hab.out _ rfl
        have hkw2 : Keeps nowhere w (wr.setCell ⟨bl, x, none⟩ (.string (strOf L))) := hkw.trans hk2 (fun k hk e => by have e2 : k = bl := e; omega)
        have hx0 : (0 : Int) ≤ (x : Int) := by omega
        have hxI : (x : Int) < n := by omega
        have hkd := (Keeps.refl nowhere wr).drew
        have q3 : ∀ w', w' = wr.drew → w'.cell? ⟨p, 3, none⟩ = some (.slice (some ⟨bw, 0, none⟩) m cw) := fun w' e => by rw [e]; exact c3
        have q0 : ∀ w', w' = wr.drew → w'.cell? ⟨bw, i * 2, none⟩ = some (.int .i64 (x : Int)) := fun w' e => by rw [e]; exact d0
        have q1 : ∀ w', w' = wr.drew → w'.cell? ⟨bw, i * 2 + 1, none⟩ = some (.string (strOf L)) := fun w' e => by rw [e]; exact d1
        obtain ⟨w2, hw2⟩ : ∃ w2, w2 = wr.setCell ⟨bl, x, none⟩ (.string (strOf L)) := ⟨_, rfl⟩
        rw [← hw2] at hR2 hkw2
        clear hcs hR hR' hbl hbw hat hP hk2 hkd d0 d1 ew
        have HR2 := Lib.hid hR2
        have Hkw2 := Lib.hid hkw2
        have Hq := Lib.hid hq
        have Hst := Lib.hid hst
        have Hkk := Lib.hid hkk
        have Hk := Lib.hid hk
        have HlenR := Lib.hid hlenR
        have Hw2 := Lib.hid hw2
        clear hR2 hkw2 hq hst hkk hk hlenR hw2
        go_upto_region 5 with fail
        refine wp_region_script [0, 1, 2, 3, 4, 5, 6, 7, 8, 9, 10, 11, 12, 13, 14, 15, 16, 17] [4, 8, 12, 16] [.ps [0, 1, 2, 3], .fs [4], .ps [5, 6, 7], .fs [8], .ps [9, 10, 11], .fs [12], .ps [13, 14, 15], .fs [16], .ps [17], .es [18] false] (fun w' => w' = wr.drew) rfl (by kernel_rfl) ?_
        clear c3 cc
        refine wpS_ps rfl fun K hK => ?_
        simp only [List.map_cons, List.map_nil, Option.getD_some, List.getElem?_toArray, List.getElem?_cons_zero, List.getElem?_cons_succ]
        iterate 4 (first | (apply quietO_cons _ rfl; (intro w' _; go_simp; rfl)) | apply quietO_skip rfl)
        refine hK _ ?_
        clear hK K
        simp only [Act.put, List.setIfInBounds_toArray, List.set_cons_zero, List.set_cons_succ]
        refine wpS_fs rfl (rfl) fun K hK => ?_
        simp only [List.map_cons, List.map_nil, Option.getD_some, List.getElem?_toArray, List.getElem?_cons_zero, List.getElem?_cons_succ]
        iterate 1 (first | (apply quietO_cons _ rfl; (intro w' hs; have c_0 := q3 w' hs; go_simp; rfl)) | apply quietO_skip rfl)
        refine hK _ ?_
        clear hK K
        simp only [Act.put, List.setIfInBounds_toArray, List.set_cons_zero, List.set_cons_succ]
        refine wpS_ps rfl fun K hK => ?_
        simp only [List.map_cons, List.map_nil, Option.getD_some, List.getElem?_toArray, List.getElem?_cons_zero, List.getElem?_cons_succ]
        iterate 3 (first | (apply quietO_cons _ rfl; (intro w' _; go_simp; rfl)) | apply quietO_skip rfl)
        refine hK _ ?_
        clear hK K
        simp only [Act.put, List.setIfInBounds_toArray, List.set_cons_zero, List.set_cons_succ]
        refine wpS_fs rfl (rfl) fun K hK => ?_
        simp only [List.map_cons, List.map_nil, Option.getD_some, List.getElem?_toArray, List.getElem?_cons_zero, List.getElem?_cons_succ]
        iterate 1 (first | (apply quietO_cons _ rfl; (intro w' hs; have c_0 := q0 w' hs; go_simp; rfl)) | apply quietO_skip rfl)
        refine hK _ ?_
        clear hK K
        simp only [Act.put, List.setIfInBounds_toArray, List.set_cons_zero, List.set_cons_succ]
        refine wpS_ps rfl fun K hK => ?_
        simp only [List.map_cons, List.map_nil, Option.getD_some, List.getElem?_toArray, List.getElem?_cons_zero, List.getElem?_cons_succ]
        iterate 3 (first | (apply quietO_cons _ rfl; (intro w' _; go_simp; rfl)) | apply quietO_skip rfl)
        refine hK _ ?_
        clear hK K
        simp only [Act.put, List.setIfInBounds_toArray, List.set_cons_zero, List.set_cons_succ]
        refine wpS_fs rfl (rfl) fun K hK => ?_
        simp only [List.map_cons, List.map_nil, Option.getD_some, List.getElem?_toArray, List.getElem?_cons_zero, List.getElem?_cons_succ]
        iterate 1 (first | (apply quietO_cons _ rfl; (intro w' hs; have c_0 := q3 w' hs; go_simp; rfl)) | apply quietO_skip rfl)
        refine hK _ ?_
        clear hK K
        simp only [Act.put, List.setIfInBounds_toArray, List.set_cons_zero, List.set_cons_succ]
        refine wpS_ps rfl fun K hK => ?_
        simp only [List.map_cons, List.map_nil, Option.getD_some, List.getElem?_toArray, List.getElem?_cons_zero, List.getElem?_cons_succ]
        iterate 3 (first | (apply quietO_cons _ rfl; (intro w' _; go_simp; rfl)) | apply quietO_skip rfl)
        refine hK _ ?_
        clear hK K
        simp only [Act.put, List.setIfInBounds_toArray, List.set_cons_zero, List.set_cons_succ]
        refine wpS_fs rfl (rfl) fun K hK => ?_
        simp only [List.map_cons, List.map_nil, Option.getD_some, List.getElem?_toArray, List.getElem?_cons_zero, List.getElem?_cons_succ]
        iterate 1 (first | (apply quietO_cons _ rfl; (intro w' hs; have c_0 := q1 w' hs; go_simp; rfl)) | apply quietO_skip rfl)
        refine hK _ ?_
        clear hK K
        simp only [Act.put, List.setIfInBounds_toArray, List.set_cons_zero, List.set_cons_succ]
        refine wpS_ps rfl fun K hK => ?_
        simp only [List.map_cons, List.map_nil, Option.getD_some, List.getElem?_toArray, List.getElem?_cons_zero, List.getElem?_cons_succ]
        iterate 1 (first | (apply quietO_cons _ rfl; (intro w' _; go_simp; rfl)) | apply quietO_skip rfl)
        refine hK _ ?_
        clear hK K
        simp only [Act.put, List.setIfInBounds_toArray, List.set_cons_zero, List.set_cons_succ]
        clear q0 q1 q3
        refine wpS_es rfl fun K hK => ?_
        have HK := Lib.hid hK
        clear hK
        simp only [List.map_cons, List.map_nil, Option.getD_some, List.getElem?_toArray, List.getElem?_cons_zero, List.getElem?_cons_succ]
        go_wp2_with fail
        rw [← Hw2.out]
        go_wp2_with fail
        refine HK.out _ _ (fun h => by cases h) ?_
        clear HK K
        refine wpS_nil ?_
        go_wp2_with fail
        go_roundw
        case rel => exact ⟨i + 1, by simp, by omega, HR2.out.same (Keeps.refl nowhere w2).drew, Hkw2.out.drew⟩
        case measure => simp [intOf]; omega
      | false =>
        have hst : settleN (kfOf keep) P.wait P.kept (i + 1) = settleN (kfOf keep) P.wait P.kept i := by rw [settle_step hq, if_neg (by simp [hk])]
        rw [← hst] at hR
        by_cases hil : i < nk
        · have hkk := kfOf_false hk (by have := Hnk.out; omega)
          obtain ⟨bc, oc, hCc, cc⟩ := rdBo_cell Hr.out hkw hkk
          have hilI : (i : Int) < nk := by omega
          subst hCc
          clear hP
          have HR := Lib.hid hR
          have Hkw := Lib.hid hkw
          have Hq := Lib.hid hq
          have Hst := Lib.hid hst
          have Hkk := Lib.hid hkk
          have Hk := Lib.hid hk
          clear hR hkw hq hst hkk hk
          go_wp2_with fail
          go_roundw
          case rel => exact ⟨i + 1, by simp, by omega, HR.out, Hkw.out⟩
          case measure => simp [intOf]; omega
        · have hilI : ¬ (i : Int) < nk := by omega
          clear hP
          have HR := Lib.hid hR
          have Hkw := Lib.hid hkw
          have Hq := Lib.hid hq
          have Hst := Lib.hid hst
          have Hk := Lib.hid hk
          clear hR hkw hq hst hk
          go_wp2_with fail
          go_roundw
          case rel => exact ⟨i + 1, by simp, by omega, HR.out, Hkw.out⟩
          case measure => simp [intOf]; omega
    · obtain rfl : i = m := by omega
      have hltI : ¬ (i : Int) < i := by omega
      obtain ⟨l, hl⟩ : ∃ l, l = settleN (kfOf keep) P.wait P.kept i := ⟨_, rfl⟩
      rw [← hl] at hR
      have hll : l.length = n := by rw [hl, settleN_len, Hnn.out]
      obtain ⟨w5, hw5⟩ : ∃ w5, w5 = ((((wr.setCell ⟨p, 1, none⟩ (.slice A1 n c1')).setCell ⟨p, 2, none⟩ (.slice A1 n c1')).setCell ⟨p, 3, none⟩ (.slice none 0 0)).setCell ⟨p, 4, none⟩ (.bool true)).setCell ⟨p, 5, none⟩ (.int .i64 0) := ⟨_, rfl⟩
      have hk5 : Keeps (only p) wr w5 := by rw [hw5]; exact (((((Keeps.refl (only p) wr).setCell (p := ⟨p, 1, none⟩) (fun _ => rfl) _).setCell (p := ⟨p, 2, none⟩) (fun _ => rfl) _).setCell (p := ⟨p, 3, none⟩) (fun _ => rfl) _).setCell (p := ⟨p, 4, none⟩) (fun _ => rfl) _).setCell (p := ⟨p, 5, none⟩) (fun _ => rfl) _
      have hb5 := ((((hP.box.set_ 1 (.slice A1 n c1')).set_ 2 (.slice A1 n c1')).set_ 3 (.slice none 0 0)).set_ 4 (.bool true)).set_ 5 (.int .i64 0)
      rw [← hw5] at hb5
      have hP5 := hP.turn hk5 (P' := P.power keep) (kv' := .slice A1 n c1') (nv' := .slice A1 n c1') (wv' := .slice none 0 0) (kp' := kp) (gk' := gk) (by simpa [PlV.power] using hb5)
        (by rw [hl, Hm.out] at hR; exact hR) (by rw [hl, Hm.out] at hR; exact hR) (RecT.Row.nil _ _) hP.keep hP.hg (fun i q hq => by simp [PlV.power] at hq) rfl
      have hkf : Keeps (only p) w w5 := (hkw.mono (fun _ _ h => h.elim)).trans hk5 (fun _ _ h => h)
      have f1 := hP.box.frozen 1
      have f2 := hP.box.frozen 2
      have f3 := hP.box.frozen 3
      have f4 := hP.box.frozen 4
      have f5 := hP.box.frozen 5
      have c1 := hP.cell 1
      have c2 := hP.cell 2
      have c4 := hP.cell 4
      have c5 := hP.cell 5
      simp only [List.getElem?_toArray, List.getElem?_cons_succ, List.getElem?_cons_zero] at c1 c2 c4 c5
      obtain ⟨An, cn, hnv, -⟩ := hP.now.form
      subst hnv
      clear hR hP hk5 hb5 hl hll
      have HP5 := Lib.hid hP5
      have Hkf := Lib.hid hkf
      have Hw5 := Lib.hid hw5
      have Hkw := Lib.hid hkw
      clear hP5 hkf hw5 hkw
      go_wp2_with fail
      rw [← Hw5.out]
      go_end0
      exact ⟨rfl, ⟨_, _, _, _, _, HP5.out⟩, Hkf.out⟩
end
end Go.Proofs.Ytnddaildicmneaa
