/-
  Parts of the proof, joined in build order: Pl2, Dk23, Dk24, PgB.
-/
import Derived.Test.YtnddaildicmneaaMr1
set_option linter.unusedVariables false
set_option linter.unusedSimpArgs false
/-
  disk: does a disk tell what the document's does?
-/
namespace Go.Proofs.Ytnddaildicmneaa
open Go.Proofs Go.RowKit Go.Sort Go.Maps

structure Agree (D : DiskV) (P : PlV) : Prop where
  size : P.size = D.size
  kept : P.kept = D.kept
  wait : P.wait = D.pend
  off : P.off = D.off
  writes : P.writes = D.writes
  nlen : P.now.length = D.kept.length
  now : ∀ i, i < D.kept.length → P.now[i]? = some (D.read i)
  arm1 : D.armed = true → P.arm = D.left ∧ P.keep = D.keep
  arm0 : D.armed = false → P.arm = 0
  dead : D.off = true → D.pend = []
theorem strOf_app (L M : List UInt8) : strOf (L ++ M) = strOf L ++ strOf M := by
  apply ByteArray.ext
  rw [ByteArray.data_append]
  simp [strOf]
theorem rdB_of2 {w : World} {v : Value} {g : Option Nat} {L : List UInt8} (h : recB.Rd w v g L) : Rd w v g (L.map bv) ∨ (L = [] ∧ ∃ A c, v = .slice A 0 c) := by
  obtain ⟨A, cap, rfl, h1, h2, hu, h3, h4⟩ := h
  by_cases h0 : 0 < L.length
  · obtain ⟨b, o, rfl, hg, hc⟩ := h3 h0
    refine .inl (.inr ⟨⟨b, o, none⟩, cap, by simp, hu, fun _ => ⟨hg, rfl⟩, by simpa using h1, h2, fun j u hj => ?_⟩)
    rw [List.getElem?_map] at hj
    cases hx : L[j]? with
    | none => rw [hx] at hj; cases hj
    | some x =>
      rw [hx] at hj
      have := hc j x hx 0 (by decide)
      rw [Nat.add_zero, show j * recB.n = j from Nat.mul_one j] at this
      rw [Addr.add_lit, this]
      exact hj
  · have : L = [] := List.eq_nil_of_length_eq_zero (by omega)
    subst this
    exact .inr ⟨rfl, A, cap, rfl⟩
theorem conv_rdB {w : World} {v : Value} {g : Option Nat} {L : List UInt8} (h : recB.Rd w v g L) (hp : 0 < L.length) : (convert 41 9 v).run Try.prog w = .ok (.string (strOf L)) w := by
  rcases rdB_of2 h with h | ⟨h0, -⟩
  · exact conv_str v g L w h
  · rw [h0] at hp; simp at hp
theorem strRow_at {w : World} {b n c : Nat} {l : List (List UInt8)} (hr : recStr.Row w (.slice (some ⟨b, 0, none⟩) n c) l) {i : Nat} {L : List UInt8} (hL : l[i]? = some L) : w.cell? ⟨b, i, none⟩ = some (.string (strOf L)) := by
  have := RecT.Row.at_ hr hL 0 (by decide)
  rw [show i * recStr.n = i from Nat.mul_one i, Nat.add_zero] at this
  simpa [recStr] using this
theorem strRow_blk {w : World} {A : Option Addr} {n c : Nat} {l : List (List UInt8)} (hr : recStr.Row w (.slice A n c) l) (hp : 0 < l.length) : ∃ b, A = some ⟨b, 0, none⟩ := by
  rcases hr.blk with ⟨hv0, h0⟩ | ⟨b, cap, rest, hv, -⟩
  · rw [h0] at hp; simp at hp
  · injection hv with h1 _ _
    exact ⟨b, h1⟩
section
variable {w0 w : World} {p d : Nat} {kv nv wv kp : Value} {gk : Option Nat} {P : PlV} {D : DiskV} {F : Nat → Prop}
set_option maxRecDepth 20000 in
set_option maxHeartbeats 16000000 in
theorem same_any (o : DOwn w0 w d F D) (ok : DOk D) (h : PAt w0 w p kv nv wv kp gk P) (ag : Agree D P) (hz : 0 < D.size) (hkl : 0 < D.kept.length) (hkb : D.kept.length ≤ 100000) :
    Calls Try.prog 34 #[.pointer (some ⟨d, 0, none⟩), .pointer (some ⟨p, 0, none⟩)] w (YesD w) := by
  obtain ⟨Ak, ck, hkv, -⟩ := h.kept.form
  obtain ⟨An, cn, hnv, -⟩ := h.now.form
  obtain ⟨Aw, cw, hwv, -⟩ := h.wait.form
  subst hkv hnv hwv
  obtain ⟨n, hn⟩ : ∃ n, n = D.kept.length := ⟨_, rfl⟩
  obtain ⟨m, hm⟩ : ∃ m, m = D.pend.length := ⟨_, rfl⟩
  have hnb : n ≤ 100000 := by omega
  have e1 : P.kept.length = n := by rw [ag.kept, hn]
  have e2 : P.now.length = n := by rw [ag.nlen, hn]
  have e3 : P.wait.length = m := by rw [ag.wait, hm]
  rw [e1, e2, e3] at h
  obtain ⟨bk, rfl⟩ := strRow_blk h.kept (by rw [e1, hn]; exact hkl)
  obtain ⟨bn, rfl⟩ := strRow_blk h.now (by rw [e2, hn]; exact hkl)
  have q0 := dk_off o.k
  have q1 := dk_pending o.k
  have q2 := dk_writes o.k
  rw [← hm] at q1
  unfold dp at q0 q1 q2
  obtain ⟨f, hf⟩ : ∃ f, f = D.off := ⟨_, rfl⟩
  obtain ⟨x, hx⟩ : ∃ x, x = D.writes := ⟨_, rfl⟩
  have c4 : ∀ w', w' = w.drew → w'.cell? ⟨p, 4, none⟩ = some (.bool f) := fun w' e => by rw [e, hf, ← ag.off]; simpa using h.cell 4
  have c3 : ∀ w', w' = w.drew → w'.cell? ⟨p, 3, none⟩ = some (.slice Aw m cw) := fun w' e => by rw [e]; simpa using h.cell 3
  have c7 : ∀ w', w' = w.drew → w'.cell? ⟨p, 7, none⟩ = some (.int .i64 x) := fun w' e => by rw [e, hx, ← ag.writes]; simpa using h.cell 7
  have q0d := dk_off (o.k.same (Keeps.refl nowhere w).drew)
  have q1d := dk_pending (o.k.same (Keeps.refl nowhere w).drew)
  have q2d := dk_writes (o.k.same (Keeps.refl nowhere w).drew)
  rw [← hm] at q1d
  rw [← hf] at q0d
  rw [← hx] at q2d
  unfold dp at q0d q1d q2d
  clear q0 q1 q2
  have O := Lib.hid o
  have H := Lib.hid h
  have Hn := Lib.hid hn
  have Hm := Lib.hid hm
  have E1 := Lib.hid e1
  have E2 := Lib.hid e2
  have E3 := Lib.hid e3
  have Q0d := Lib.hid q0d
  have Q1d := Lib.hid q1d
  have Q2d := Lib.hid q2d
  have Hf := Lib.hid hf
  have Hx := Lib.hid hx
  clear o h hn hm e1 e2 e3 q0d q1d q2d hf hx
  go_enter Try.func34, Try.ntmps34
  go_wp2_with fail
  refine wp_region_script [0, 2, 3, 4, 5, 6, 7, 8, 10, 11, 12, 13, 14, 15, 16, 17, 18, 20, 21, 22, 23, 24, 25] [5, 13, 23] [.ps [0, 2, 3, 4], .fs [5], .es [1] true, .ps [6, 7], .ps [8, 10, 11], .ps [12], .fs [13], .ps [14], .es [9] true, .ps [15, 16, 17], .ps [18, 20, 21], .ps [22], .fs [23], .es [19] true, .ps [24, 25]] (fun w' => w' = w.drew) rfl (by kernel_rfl) ?_
  refine wpS_ps rfl fun K hK => ?_
  simp only [List.map_cons, List.map_nil, Option.getD_some, List.getElem?_toArray, List.getElem?_cons_zero, List.getElem?_cons_succ]
  iterate 4 (first | (apply quietO_cons _ rfl; (intro w' _; go_simp; rfl)) | apply quietO_skip rfl)
  refine hK _ ?_
  clear hK K
  simp only [Act.put, List.setIfInBounds_toArray, List.set_cons_zero, List.set_cons_succ]
  refine wpS_fs rfl (rfl) fun K hK => ?_
  simp only [List.map_cons, List.map_nil, Option.getD_some, List.getElem?_toArray, List.getElem?_cons_zero, List.getElem?_cons_succ]
  iterate 1 (first | (apply quietO_cons _ rfl; (intro w' hs; have c_0 := c4 w' hs; go_simp; rfl)) | apply quietO_skip rfl)
  refine hK _ ?_
  clear hK K
  simp only [Act.put, List.setIfInBounds_toArray, List.set_cons_zero, List.set_cons_succ]
  refine wpS_es rfl fun K hK => ?_
  have HK := Lib.hid hK
  clear hK
  simp only [List.map_cons, List.map_nil, Option.getD_some, List.getElem?_toArray, List.getElem?_cons_zero, List.getElem?_cons_succ]
  go_wp2_with fail
  refine Q0d.out.mono ?_
  rintro e w1 ⟨rfl, rfl⟩
  go_wp2_with fail
  refine HK.out _ _ (fun _ => rfl) ?_
  clear HK K
  refine wpS_ps rfl fun K hK => ?_
  simp only [List.map_cons, List.map_nil, Option.getD_some, List.getElem?_toArray, List.getElem?_cons_zero, List.getElem?_cons_succ]
  iterate 2 (first | (apply quietO_cons _ rfl; (intro w' _; go_simp; rfl)) | apply quietO_skip rfl)
  refine hK _ ?_
  clear hK K
  simp only [Act.put, List.setIfInBounds_toArray, List.set_cons_zero, List.set_cons_succ]
  refine wpS_ps rfl fun K hK => ?_
  simp only [List.map_cons, List.map_nil, Option.getD_some, List.getElem?_toArray, List.getElem?_cons_zero, List.getElem?_cons_succ]
  iterate 3 (first | (apply quietO_cons _ rfl; (intro w' _; go_simp; rfl)) | apply quietO_skip rfl)
  refine hK _ ?_
  clear hK K
  simp only [Act.put, List.setIfInBounds_toArray, List.set_cons_zero, List.set_cons_succ]
  refine wpS_ps rfl fun K hK => ?_
  simp only [List.map_cons, List.map_nil, Option.getD_some, List.getElem?_toArray, List.getElem?_cons_zero, List.getElem?_cons_succ]
  iterate 1 (first | (apply quietO_cons _ rfl; (intro w' _; go_simp; rfl)) | apply quietO_skip rfl)
  refine hK _ ?_
  clear hK K
  simp only [Act.put, List.setIfInBounds_toArray, List.set_cons_zero, List.set_cons_succ]
  refine wpS_fs rfl (rfl) fun K hK => ?_
  simp only [List.map_cons, List.map_nil, Option.getD_some, List.getElem?_toArray, List.getElem?_cons_zero, List.getElem?_cons_succ]
  iterate 1 (first | (apply quietO_cons _ rfl; (intro w' hs; have c_0 := c3 w' hs; go_simp; rfl)) | apply quietO_skip rfl)
  refine hK _ ?_
  clear hK K
  simp only [Act.put, List.setIfInBounds_toArray, List.set_cons_zero, List.set_cons_succ]
  refine wpS_ps rfl fun K hK => ?_
  simp only [List.map_cons, List.map_nil, Option.getD_some, List.getElem?_toArray, List.getElem?_cons_zero, List.getElem?_cons_succ]
  iterate 1 (first | (apply quietO_cons _ rfl; (intro w' _; go_simp; rfl)) | apply quietO_skip rfl)
  refine hK _ ?_
  clear hK K
  simp only [Act.put, List.setIfInBounds_toArray, List.set_cons_zero, List.set_cons_succ]
  refine wpS_es rfl fun K hK => ?_
  have HK := Lib.hid hK
  clear hK
  simp only [List.map_cons, List.map_nil, Option.getD_some, List.getElem?_toArray, List.getElem?_cons_zero, List.getElem?_cons_succ]
  go_wp2_with fail
  refine Q1d.out.mono ?_
  rintro e w1 ⟨rfl, rfl⟩
  go_wp2_with fail
  refine HK.out _ _ (fun _ => rfl) ?_
  clear HK K
  refine wpS_ps rfl fun K hK => ?_
  simp only [List.map_cons, List.map_nil, Option.getD_some, List.getElem?_toArray, List.getElem?_cons_zero, List.getElem?_cons_succ]
  iterate 3 (first | (apply quietO_cons _ rfl; (intro w' _; go_simp; rfl)) | apply quietO_skip rfl)
  refine hK _ ?_
  clear hK K
  simp only [Act.put, List.setIfInBounds_toArray, List.set_cons_zero, List.set_cons_succ]
  refine wpS_ps rfl fun K hK => ?_
  simp only [List.map_cons, List.map_nil, Option.getD_some, List.getElem?_toArray, List.getElem?_cons_zero, List.getElem?_cons_succ]
  iterate 3 (first | (apply quietO_cons _ rfl; (intro w' _; go_simp; rfl)) | apply quietO_skip rfl)
  refine hK _ ?_
  clear hK K
  simp only [Act.put, List.setIfInBounds_toArray, List.set_cons_zero, List.set_cons_succ]
  refine wpS_ps rfl fun K hK => ?_
  simp only [List.map_cons, List.map_nil, Option.getD_some, List.getElem?_toArray, List.getElem?_cons_zero, List.getElem?_cons_succ]
  iterate 1 (first | (apply quietO_cons _ rfl; (intro w' _; go_simp; rfl)) | apply quietO_skip rfl)
  refine hK _ ?_
  clear hK K
  simp only [Act.put, List.setIfInBounds_toArray, List.set_cons_zero, List.set_cons_succ]
  refine wpS_fs rfl (rfl) fun K hK => ?_
  simp only [List.map_cons, List.map_nil, Option.getD_some, List.getElem?_toArray, List.getElem?_cons_zero, List.getElem?_cons_succ]
  iterate 1 (first | (apply quietO_cons _ rfl; (intro w' hs; have c_0 := c7 w' hs; go_simp; rfl)) | apply quietO_skip rfl)
  refine hK _ ?_
  clear hK K
  simp only [Act.put, List.setIfInBounds_toArray, List.set_cons_zero, List.set_cons_succ]
  refine wpS_es rfl fun K hK => ?_
  have HK := Lib.hid hK
  clear hK
  simp only [List.map_cons, List.map_nil, Option.getD_some, List.getElem?_toArray, List.getElem?_cons_zero, List.getElem?_cons_succ]
  go_wp2_with fail
  refine Q2d.out.mono ?_
  rintro e w1 ⟨rfl, rfl⟩
  go_wp2_with fail
  refine HK.out _ _ (fun _ => rfl) ?_
  clear HK K
  refine wpS_ps rfl fun K hK => ?_
  simp only [List.map_cons, List.map_nil, Option.getD_some, List.getElem?_toArray, List.getElem?_cons_zero, List.getElem?_cons_succ]
  iterate 2 (first | (apply quietO_cons _ rfl; (intro w' _; go_simp; rfl)) | apply quietO_skip rfl)
  refine hK _ ?_
  clear hK K
  simp only [Act.put, List.setIfInBounds_toArray, List.set_cons_zero, List.set_cons_succ]
  refine wpS_nil ?_
  clear c3 c4 c7 Q0d Q1d Q2d
  go_wp2_with fail
  have hkd := (Keeps.refl nowhere w).drew
  go_loopw [5, 6] (fun sv iv wr => ∃ i : Nat, sv = .string (strOf (D.kept.take i).flatten) ∧ iv = .int .i64 i ∧ i ≤ n ∧ Keeps nowhere w wr) (fun _ iv _ => n - (intOf iv).toNat)
  case atStart => exact ⟨0, rfl, rfl, Nat.zero_le _, hkd⟩
  case round =>
    obtain ⟨i, rfl, rfl, hi, hk⟩ := hrel
    have oo := O.out.same hk
    have hh := H.out.same hk
    by_cases hlt : i < n
    · have hltI : (i : Int) < n := by omega
      have hi0 : (0 : Int) ≤ (i : Int) := by omega
      have hi1 : IntKind.i64.wrap ((i : Int) + 1) = i + 1 := IntWalk.i64_in _ (by omega)
      have c2 := hh.cell 2
      simp only [List.getElem?_toArray, List.getElem?_cons_succ, List.getElem?_cons_zero] at c2
      have hc := own_read (i : Int) oo ok
      obtain ⟨L, hL⟩ : ∃ L, D.kept[i]? = some L := ⟨_, List.getElem?_eq_getElem (by rw [← Hn.out]; exact hlt)⟩
      have hst : (D.kept.take (i + 1)).flatten = (D.kept.take i).flatten ++ L := tot_take hL
      have hnw := ag.now i (by rw [← Hn.out]; exact hlt)
      have hszs : ¬ 9223372036854775807 < (strOf (List.take i D.kept).flatten).size + (strOf L).size := by
        have h1 : (strOf (List.take i D.kept).flatten).size = (D.kept.take i).flatten.length := by simp [strOf, ByteArray.size]
        have h2 : (strOf L).size = L.length := by simp [strOf, ByteArray.size]
        have h3 := tot_le D.kept (i + 1)
        unfold tot at h3
        rw [hst, List.length_append, oo.k.flat] at h3
        have := ok.all
        rw [h1, h2]
        omega
      unfold dp at hc
      by_cases ho : D.off = true
      · have hre : D.readE (i : Int) = 22 := by unfold DiskV.readE; rw [if_pos ho]
        have hfT : f = true := by rw [Hf.out]; exact ho
        rw [hre] at hc
        subst hfT
        clear hh
        have Oo := Lib.hid oo
        have Hc := Lib.hid hc
        have HL := Lib.hid hL
        have Hst := Lib.hid hst
        have Hnw := Lib.hid hnw
        have Hk := Lib.hid hk
        have Ho := Lib.hid ho
        clear oo hc hL hst hnw hk ho
        go_wp2_with fail
        refine Hc.out.mono ?_
        rintro e w2 ⟨A2, c2', g2, rfl, -, -, -, hk2⟩
        have hkr : Keeps nowhere w w2.drew := (Hk.out.more hk2).drew
        have d4 : ∀ w', w' = w2.drew → w'.cell? ⟨p, 4, none⟩ = some (.bool true) := fun w' e => by
          have := (H.out.same hkr).cell 4
          rw [ag.off, Ho.out] at this
          rw [e]
          simpa using this
        have d1 := (H.out.same hkr).cell 1
        simp only [List.getElem?_toArray, List.getElem?_cons_succ, List.getElem?_cons_zero] at d1
        have dk := strRow_at (H.out.same hkr).kept (by rw [ag.kept]; exact HL.out)
        generalize (D.readL (i : Int)).length = M2
        clear c2 Hc
        have Hkr := Lib.hid hkr
        clear hkr
        go_upto_region 8 with fail
        refine wp_region_script [0, 1, 2, 3, 4, 5, 6, 7, 8, 9, 10, 11, 12, 13, 14, 15, 16, 17, 18, 19, 20, 21, 22, 23, 24, 25, 26, 27, 28, 29, 30] [3, 12, 19, 23, 26] [.ps [0, 1, 2], .fs [3], .ps [4], .ps [5, 6], .ps [7, 8], .ps [9, 10, 11], .fs [12], .ps [13, 14], .ps [15, 16, 17], .ps [18], .fs [19], .ps [20, 21, 22], .fs [23], .ps [24, 25], .fs [26], .ps [27, 28], .ps [29, 30]] (fun w' => w' = w2.drew) rfl (by kernel_rfl) ?_
        refine wpS_ps rfl fun K hK => ?_
        simp only [List.map_cons, List.map_nil, Option.getD_some, List.getElem?_toArray, List.getElem?_cons_zero, List.getElem?_cons_succ]
        iterate 3 (first | (apply quietO_cons _ rfl; (intro w' _; go_simp; rfl)) | apply quietO_skip rfl)
        refine hK _ ?_
        clear hK K
        simp only [Act.put, List.setIfInBounds_toArray, List.set_cons_zero, List.set_cons_succ]
        refine wpS_fs rfl (rfl) fun K hK => ?_
        simp only [List.map_cons, List.map_nil, Option.getD_some, List.getElem?_toArray, List.getElem?_cons_zero, List.getElem?_cons_succ]
        iterate 1 (first | (apply quietO_cons _ rfl; (intro w' hs; have c_0 := d4 w' hs; go_simp; rfl)) | apply quietO_skip rfl)
        refine hK _ ?_
        clear hK K
        simp only [Act.put, List.setIfInBounds_toArray, List.set_cons_zero, List.set_cons_succ]
        refine wpS_ps rfl fun K hK => ?_
        simp only [List.map_cons, List.map_nil, Option.getD_some, List.getElem?_toArray, List.getElem?_cons_zero, List.getElem?_cons_succ]
        iterate 1 (first | (apply quietO_cons _ rfl; (intro w' _; go_simp; rfl)) | apply quietO_skip rfl)
        refine hK _ ?_
        clear hK K
        simp only [Act.put, List.setIfInBounds_toArray, List.set_cons_zero, List.set_cons_succ]
        refine wpS_ps rfl fun K hK => ?_
        simp only [List.map_cons, List.map_nil, Option.getD_some, List.getElem?_toArray, List.getElem?_cons_zero, List.getElem?_cons_succ]
        iterate 2 (first | (apply quietO_cons _ rfl; (intro w' _; go_simp; rfl)) | apply quietO_skip rfl)
        refine hK _ ?_
        clear hK K
        simp only [Act.put, List.setIfInBounds_toArray, List.set_cons_zero, List.set_cons_succ]
        refine wpS_ps rfl fun K hK => ?_
        simp only [List.map_cons, List.map_nil, Option.getD_some, List.getElem?_toArray, List.getElem?_cons_zero, List.getElem?_cons_succ]
        iterate 2 (first | (apply quietO_cons _ rfl; (intro w' _; go_simp; rfl)) | apply quietO_skip rfl)
        refine hK _ ?_
        clear hK K
        simp only [Act.put, List.setIfInBounds_toArray, List.set_cons_zero, List.set_cons_succ]
        refine wpS_ps rfl fun K hK => ?_
        simp only [List.map_cons, List.map_nil, Option.getD_some, List.getElem?_toArray, List.getElem?_cons_zero, List.getElem?_cons_succ]
        iterate 3 (first | (apply quietO_cons _ rfl; (intro w' _; go_simp; rfl)) | apply quietO_skip rfl)
        refine hK _ ?_
        clear hK K
        simp only [Act.put, List.setIfInBounds_toArray, List.set_cons_zero, List.set_cons_succ]
        refine wpS_fs rfl (rfl) fun K hK => ?_
        simp only [List.map_cons, List.map_nil, Option.getD_some, List.getElem?_toArray, List.getElem?_cons_zero, List.getElem?_cons_succ]
        iterate 1 (first | (apply quietO_cons _ rfl; (intro w' hs; have c_0 := d4 w' hs; go_simp; rfl)) | apply quietO_skip rfl)
        refine hK _ ?_
        clear hK K
        simp only [Act.put, List.setIfInBounds_toArray, List.set_cons_zero, List.set_cons_succ]
        refine wpS_ps rfl fun K hK => ?_
        simp only [List.map_cons, List.map_nil, Option.getD_some, List.getElem?_toArray, List.getElem?_cons_zero, List.getElem?_cons_succ]
        iterate 2 (first | (apply quietO_cons _ rfl; (intro w' _; go_simp; rfl)) | apply quietO_skip rfl)
        refine hK _ ?_
        clear hK K
        simp only [Act.put, List.setIfInBounds_toArray, List.set_cons_zero, List.set_cons_succ]
        refine wpS_ps rfl fun K hK => ?_
        simp only [List.map_cons, List.map_nil, Option.getD_some, List.getElem?_toArray, List.getElem?_cons_zero, List.getElem?_cons_succ]
        iterate 3 (first | (apply quietO_cons _ rfl; (intro w' _; go_simp; rfl)) | apply quietO_skip rfl)
        refine hK _ ?_
        clear hK K
        simp only [Act.put, List.setIfInBounds_toArray, List.set_cons_zero, List.set_cons_succ]
        refine wpS_ps rfl fun K hK => ?_
        simp only [List.map_cons, List.map_nil, Option.getD_some, List.getElem?_toArray, List.getElem?_cons_zero, List.getElem?_cons_succ]
        iterate 1 (first | (apply quietO_cons _ rfl; (intro w' _; go_simp; rfl)) | apply quietO_skip rfl)
        refine hK _ ?_
        clear hK K
        simp only [Act.put, List.setIfInBounds_toArray, List.set_cons_zero, List.set_cons_succ]
        refine wpS_fs rfl (rfl) fun K hK => ?_
        simp only [List.map_cons, List.map_nil, Option.getD_some, List.getElem?_toArray, List.getElem?_cons_zero, List.getElem?_cons_succ]
        iterate 1 (first | (apply quietO_cons _ rfl; (intro w' hs; go_simp; rfl)) | apply quietO_skip rfl)
        refine hK _ ?_
        clear hK K
        simp only [Act.put, List.setIfInBounds_toArray, List.set_cons_zero, List.set_cons_succ]
        refine wpS_ps rfl fun K hK => ?_
        simp only [List.map_cons, List.map_nil, Option.getD_some, List.getElem?_toArray, List.getElem?_cons_zero, List.getElem?_cons_succ]
        iterate 3 (first | (apply quietO_cons _ rfl; (intro w' _; go_simp; rfl)) | apply quietO_skip rfl)
        refine hK _ ?_
        clear hK K
        simp only [Act.put, List.setIfInBounds_toArray, List.set_cons_zero, List.set_cons_succ]
        refine wpS_fs rfl (rfl) fun K hK => ?_
        simp only [List.map_cons, List.map_nil, Option.getD_some, List.getElem?_toArray, List.getElem?_cons_zero, List.getElem?_cons_succ]
        iterate 1 (first | (apply quietO_cons _ rfl; (intro w' hs; go_simp; rfl)) | apply quietO_skip rfl)
        refine hK _ ?_
        clear hK K
        simp only [Act.put, List.setIfInBounds_toArray, List.set_cons_zero, List.set_cons_succ]
        refine wpS_ps rfl fun K hK => ?_
        simp only [List.map_cons, List.map_nil, Option.getD_some, List.getElem?_toArray, List.getElem?_cons_zero, List.getElem?_cons_succ]
        iterate 2 (first | (apply quietO_cons _ rfl; (intro w' _; go_simp; rfl)) | apply quietO_skip rfl)
        refine hK _ ?_
        clear hK K
        simp only [Act.put, List.setIfInBounds_toArray, List.set_cons_zero, List.set_cons_succ]
        refine wpS_fs rfl (rfl) fun K hK => ?_
        simp only [List.map_cons, List.map_nil, Option.getD_some, List.getElem?_toArray, List.getElem?_cons_zero, List.getElem?_cons_succ]
        iterate 1 (first | (apply quietO_cons _ rfl; (intro w' hs; go_simp; rfl)) | apply quietO_skip rfl)
        refine hK _ ?_
        clear hK K
        simp only [Act.put, List.setIfInBounds_toArray, List.set_cons_zero, List.set_cons_succ]
        refine wpS_ps rfl fun K hK => ?_
        simp only [List.map_cons, List.map_nil, Option.getD_some, List.getElem?_toArray, List.getElem?_cons_zero, List.getElem?_cons_succ]
        iterate 2 (first | (apply quietO_cons _ rfl; (intro w' _; go_simp; rfl)) | apply quietO_skip rfl)
        refine hK _ ?_
        clear hK K
        simp only [Act.put, List.setIfInBounds_toArray, List.set_cons_zero, List.set_cons_succ]
        refine wpS_ps rfl fun K hK => ?_
        simp only [List.map_cons, List.map_nil, Option.getD_some, List.getElem?_toArray, List.getElem?_cons_zero, List.getElem?_cons_succ]
        iterate 2 (first | (apply quietO_cons _ rfl; (intro w' _; go_simp; rfl)) | apply quietO_skip rfl)
        refine hK _ ?_
        clear hK K
        simp only [Act.put, List.setIfInBounds_toArray, List.set_cons_zero, List.set_cons_succ]
        refine wpS_nil ?_
        clear d4
        go_wp2_with fail
        rw [← strOf_app, ← Hst.out]
        go_roundw
        case rel => exact ⟨i + 1, rfl, by simp, by omega, Hkr.out⟩
        case measure => simp [intOf]; omega
      · have ho' : D.off = false := by simpa using ho
        have hre : D.readE (i : Int) = 0 := by unfold DiskV.readE; rw [if_neg ho, if_pos ⟨by omega, by rw [← Hn.out]; omega⟩]
        have hrl : D.readL (i : Int) = D.read i := by unfold DiskV.readL; rw [if_neg ho, if_pos ⟨by omega, by rw [← Hn.out]; omega⟩, Int.toNat_natCast]
        have hfF : f = false := by rw [Hf.out]; exact ho'
        have hrlen := oo.k.readLen ho' (s := i) (by rw [← Hn.out]; exact hlt)
        rw [hre] at hc
        rw [hrl] at hc hrlen
        obtain ⟨R, hR⟩ : ∃ R, R = D.read i := ⟨_, rfl⟩
        rw [← hR] at hc hrlen hnw
        have hRp : 0 < R.length := by omega
        subst hfF
        clear hh
        have Oo := Lib.hid oo
        have Hc := Lib.hid hc
        have HL := Lib.hid hL
        have Hst := Lib.hid hst
        have Hnw := Lib.hid hnw
        have Hk := Lib.hid hk
        have Ho := Lib.hid ho
        have Ho' := Lib.hid ho'
        have HR := Lib.hid hR
        have Hrlen := Lib.hid hrlen
        have HRp := Lib.hid hRp
        have Hrl := Lib.hid hrl
        have Hre := Lib.hid hre
        clear oo hc hL hst hnw hk ho ho' hR hrlen hRp hrl hre
        go_wp2_with fail
        refine Hc.out.mono ?_
        rintro e w2 ⟨A2, c2', g2, rfl, hr2, -, -, hk2⟩
        have hkr : Keeps nowhere w w2.drew := (Hk.out.more hk2).drew
        have d4 : ∀ w', w' = w2.drew → w'.cell? ⟨p, 4, none⟩ = some (.bool false) := fun w' e => by
          have := (H.out.same hkr).cell 4
          rw [ag.off, Ho'.out] at this
          rw [e]
          simpa using this
        have d2 : ∀ w', w' = w2.drew → w'.cell? ⟨p, 2, none⟩ = some (.slice (some ⟨bn, 0, none⟩) n cn) := fun w' e => by
          rw [e]
          simpa using (H.out.same hkr).cell 2
        have dn : ∀ w', w' = w2.drew → w'.cell? ⟨bn, i, none⟩ = some (.string (strOf R)) := fun w' e => by
          rw [e]
          exact strRow_at (H.out.same hkr).now Hnw.out
        have dc : ∀ w', w' = w2.drew → (convert 41 9 (.slice A2 R.length c2')).run Try.prog w' = .ok (.string (strOf R)) w' := fun w' e => by
          rw [e]
          exact conv_rdB (hr2.same (Keeps.refl nowhere w2).drew) HRp.out
        have d1 := (H.out.same hkr).cell 1
        simp only [List.getElem?_toArray, List.getElem?_cons_succ, List.getElem?_cons_zero] at d1
        have dk := strRow_at (H.out.same hkr).kept (by rw [ag.kept]; exact HL.out)
        generalize R.length = M2 at dc ⊢
        clear c2 Hc
        have Hkr := Lib.hid hkr
        have Hr2 := Lib.hid hr2
        clear hkr hr2
        go_upto_region 8 with fail
        refine wp_region_script [0, 1, 2, 3, 4, 5, 6, 7, 8, 9, 10, 11, 12, 13, 14, 15, 16, 17, 18, 19, 20, 21, 22, 23, 24, 25, 26, 27, 28, 29, 30] [3, 12, 19, 23, 26] [.ps [0, 1, 2], .fs [3], .ps [4], .ps [5, 6], .ps [7, 8], .ps [9, 10, 11], .fs [12], .ps [13, 14], .ps [15, 16, 17], .ps [18], .fs [19], .ps [20, 21, 22], .fs [23], .ps [24, 25], .fs [26], .ps [27, 28], .ps [29, 30]] (fun w' => w' = w2.drew) rfl (by kernel_rfl) ?_
        refine wpS_ps rfl fun K hK => ?_
        simp only [List.map_cons, List.map_nil, Option.getD_some, List.getElem?_toArray, List.getElem?_cons_zero, List.getElem?_cons_succ]
        iterate 3 (first | (apply quietO_cons _ rfl; (intro w' _; go_simp; rfl)) | apply quietO_skip rfl)
        refine hK _ ?_
        clear hK K
        simp only [Act.put, List.setIfInBounds_toArray, List.set_cons_zero, List.set_cons_succ]
        refine wpS_fs rfl (rfl) fun K hK => ?_
        simp only [List.map_cons, List.map_nil, Option.getD_some, List.getElem?_toArray, List.getElem?_cons_zero, List.getElem?_cons_succ]
        iterate 1 (first | (apply quietO_cons _ rfl; (intro w' hs; have c_0 := d4 w' hs; go_simp; rfl)) | apply quietO_skip rfl)
        refine hK _ ?_
        clear hK K
        simp only [Act.put, List.setIfInBounds_toArray, List.set_cons_zero, List.set_cons_succ]
        refine wpS_ps rfl fun K hK => ?_
        simp only [List.map_cons, List.map_nil, Option.getD_some, List.getElem?_toArray, List.getElem?_cons_zero, List.getElem?_cons_succ]
        iterate 1 (first | (apply quietO_cons _ rfl; (intro w' _; go_simp; rfl)) | apply quietO_skip rfl)
        refine hK _ ?_
        clear hK K
        simp only [Act.put, List.setIfInBounds_toArray, List.set_cons_zero, List.set_cons_succ]
        refine wpS_ps rfl fun K hK => ?_
        simp only [List.map_cons, List.map_nil, Option.getD_some, List.getElem?_toArray, List.getElem?_cons_zero, List.getElem?_cons_succ]
        iterate 2 (first | (apply quietO_cons _ rfl; (intro w' _; go_simp; rfl)) | apply quietO_skip rfl)
        refine hK _ ?_
        clear hK K
        simp only [Act.put, List.setIfInBounds_toArray, List.set_cons_zero, List.set_cons_succ]
        refine wpS_ps rfl fun K hK => ?_
        simp only [List.map_cons, List.map_nil, Option.getD_some, List.getElem?_toArray, List.getElem?_cons_zero, List.getElem?_cons_succ]
        iterate 2 (first | (apply quietO_cons _ rfl; (intro w' _; go_simp; rfl)) | apply quietO_skip rfl)
        refine hK _ ?_
        clear hK K
        simp only [Act.put, List.setIfInBounds_toArray, List.set_cons_zero, List.set_cons_succ]
        refine wpS_ps rfl fun K hK => ?_
        simp only [List.map_cons, List.map_nil, Option.getD_some, List.getElem?_toArray, List.getElem?_cons_zero, List.getElem?_cons_succ]
        iterate 3 (first | (apply quietO_cons _ rfl; (intro w' _; go_simp; rfl)) | apply quietO_skip rfl)
        refine hK _ ?_
        clear hK K
        simp only [Act.put, List.setIfInBounds_toArray, List.set_cons_zero, List.set_cons_succ]
        refine wpS_fs rfl (rfl) fun K hK => ?_
        simp only [List.map_cons, List.map_nil, Option.getD_some, List.getElem?_toArray, List.getElem?_cons_zero, List.getElem?_cons_succ]
        iterate 1 (first | (apply quietO_cons _ rfl; (intro w' hs; have c_0 := d4 w' hs; go_simp; rfl)) | apply quietO_skip rfl)
        refine hK _ ?_
        clear hK K
        simp only [Act.put, List.setIfInBounds_toArray, List.set_cons_zero, List.set_cons_succ]
        refine wpS_ps rfl fun K hK => ?_
        simp only [List.map_cons, List.map_nil, Option.getD_some, List.getElem?_toArray, List.getElem?_cons_zero, List.getElem?_cons_succ]
        iterate 2 (first | (apply quietO_cons _ rfl; (intro w' _; go_simp; rfl)) | apply quietO_skip rfl)
        refine hK _ ?_
        clear hK K
        simp only [Act.put, List.setIfInBounds_toArray, List.set_cons_zero, List.set_cons_succ]
        refine wpS_ps rfl fun K hK => ?_
        simp only [List.map_cons, List.map_nil, Option.getD_some, List.getElem?_toArray, List.getElem?_cons_zero, List.getElem?_cons_succ]
        iterate 3 (first | (apply quietO_cons _ rfl; (intro w' _; go_simp; rfl)) | apply quietO_skip rfl)
        refine hK _ ?_
        clear hK K
        simp only [Act.put, List.setIfInBounds_toArray, List.set_cons_zero, List.set_cons_succ]
        refine wpS_ps rfl fun K hK => ?_
        simp only [List.map_cons, List.map_nil, Option.getD_some, List.getElem?_toArray, List.getElem?_cons_zero, List.getElem?_cons_succ]
        iterate 1 (first | (apply quietO_cons _ rfl; (intro w' _; go_simp; rfl)) | apply quietO_skip rfl)
        refine hK _ ?_
        clear hK K
        simp only [Act.put, List.setIfInBounds_toArray, List.set_cons_zero, List.set_cons_succ]
        refine wpS_fs rfl (rfl) fun K hK => ?_
        simp only [List.map_cons, List.map_nil, Option.getD_some, List.getElem?_toArray, List.getElem?_cons_zero, List.getElem?_cons_succ]
        iterate 1 (first | (apply quietO_cons _ rfl; (intro w' hs; have c_0 := dc w' hs; go_simp; rfl)) | apply quietO_skip rfl)
        refine hK _ ?_
        clear hK K
        simp only [Act.put, List.setIfInBounds_toArray, List.set_cons_zero, List.set_cons_succ]
        refine wpS_ps rfl fun K hK => ?_
        simp only [List.map_cons, List.map_nil, Option.getD_some, List.getElem?_toArray, List.getElem?_cons_zero, List.getElem?_cons_succ]
        iterate 3 (first | (apply quietO_cons _ rfl; (intro w' _; go_simp; rfl)) | apply quietO_skip rfl)
        refine hK _ ?_
        clear hK K
        simp only [Act.put, List.setIfInBounds_toArray, List.set_cons_zero, List.set_cons_succ]
        refine wpS_fs rfl (rfl) fun K hK => ?_
        simp only [List.map_cons, List.map_nil, Option.getD_some, List.getElem?_toArray, List.getElem?_cons_zero, List.getElem?_cons_succ]
        iterate 1 (first | (apply quietO_cons _ rfl; (intro w' hs; have c_0 := d2 w' hs; go_simp; rfl)) | apply quietO_skip rfl)
        refine hK _ ?_
        clear hK K
        simp only [Act.put, List.setIfInBounds_toArray, List.set_cons_zero, List.set_cons_succ]
        refine wpS_ps rfl fun K hK => ?_
        simp only [List.map_cons, List.map_nil, Option.getD_some, List.getElem?_toArray, List.getElem?_cons_zero, List.getElem?_cons_succ]
        iterate 2 (first | (apply quietO_cons _ rfl; (intro w' _; go_simp; rfl)) | apply quietO_skip rfl)
        refine hK _ ?_
        clear hK K
        simp only [Act.put, List.setIfInBounds_toArray, List.set_cons_zero, List.set_cons_succ]
        refine wpS_fs rfl (rfl) fun K hK => ?_
        simp only [List.map_cons, List.map_nil, Option.getD_some, List.getElem?_toArray, List.getElem?_cons_zero, List.getElem?_cons_succ]
        iterate 1 (first | (apply quietO_cons _ rfl; (intro w' hs; have c_0 := dn w' hs; go_simp; rfl)) | apply quietO_skip rfl)
        refine hK _ ?_
        clear hK K
        simp only [Act.put, List.setIfInBounds_toArray, List.set_cons_zero, List.set_cons_succ]
        refine wpS_ps rfl fun K hK => ?_
        simp only [List.map_cons, List.map_nil, Option.getD_some, List.getElem?_toArray, List.getElem?_cons_zero, List.getElem?_cons_succ]
        iterate 2 (first | (apply quietO_cons _ rfl; (intro w' _; go_simp; rfl)) | apply quietO_skip rfl)
        refine hK _ ?_
        clear hK K
        simp only [Act.put, List.setIfInBounds_toArray, List.set_cons_zero, List.set_cons_succ]
        refine wpS_ps rfl fun K hK => ?_
        simp only [List.map_cons, List.map_nil, Option.getD_some, List.getElem?_toArray, List.getElem?_cons_zero, List.getElem?_cons_succ]
        iterate 2 (first | (apply quietO_cons _ rfl; (intro w' _; go_simp; rfl)) | apply quietO_skip rfl)
        refine hK _ ?_
        clear hK K
        simp only [Act.put, List.setIfInBounds_toArray, List.set_cons_zero, List.set_cons_succ]
        refine wpS_nil ?_
        clear d4 dc d2 dn
        go_wp2_with fail
        rw [← strOf_app, ← Hst.out]
        go_roundw
        case rel => exact ⟨i + 1, rfl, by simp, by omega, Hkr.out⟩
        case measure => simp [intOf]; omega
    · obtain rfl : i = n := by omega
      have hltI : ¬ (i : Int) < i := by omega
      have c2 := hh.cell 2
      simp only [List.getElem?_toArray, List.getElem?_cons_succ, List.getElem?_cons_zero] at c2
      have hall : D.kept.take i = D.kept := List.take_of_length_le (by rw [Hn.out]; exact Nat.le_refl _)
      have hc := own_read (i : Int) oo ok
      have hflat : 0 < D.kept.flatten.length := by rw [oo.k.flat]; exact Nat.mul_pos hkl hz
      unfold dp at hc
      rw [hall]
      clear hh
      cases f with
      | true =>
        have hre : D.readE (i : Int) = 22 := by unfold DiskV.readE; rw [if_pos Hf.out.symm]
        rw [hre] at hc
        have Oo := Lib.hid oo
        have Hc := Lib.hid hc
        have Hk := Lib.hid hk
        have Hall := Lib.hid hall
        have Hre := Lib.hid hre
        have Hflat := Lib.hid hflat
        clear oo hc hk hall hre hflat
        go_wp2_with fail
        refine Hc.out.mono ?_
        rintro e w2 ⟨A2, c2', g2, rfl, -, -, o2, hk2⟩
        generalize (D.readL (i : Int)).length = M2
        have hb := own_bytes o2 ok hkl
        unfold dp at hb
        clear c2 Hc
        have Hb := Lib.hid hb
        have Hk2 := Lib.hid hk2
        clear hb hk2
        go_wp2_with fail
        refine Hb.out.mono ?_
        rintro e w3 ⟨A3, c3, g3, rfl, hr3, -, o3, hk3⟩
        have dc := conv_rdB hr3 Hflat.out
        have hkr : Keeps nowhere w w3 := (Hk.out.more Hk2.out).more hk3
        have d4 := (H.out.same hkr).cell 4
        rw [ag.off, ← Hf.out] at d4
        simp only [List.getElem?_toArray, List.getElem?_cons_succ, List.getElem?_cons_zero] at d4
        generalize D.kept.flatten.length = M3 at dc ⊢
        clear hr3 Hb
        have Hkr := Lib.hid hkr
        have O3 := Lib.hid o3
        clear hkr o3
        go_wp2_with fail
        go_ret
        exact ⟨rfl, Hkr.out⟩
      | false =>
        have hre : D.readE (i : Int) = 1 := by
          unfold DiskV.readE
          rw [if_neg (by rw [← Hf.out]; simp), if_neg (by rw [← Hn.out]; omega)]
        rw [hre] at hc
        have Oo := Lib.hid oo
        have Hc := Lib.hid hc
        have Hk := Lib.hid hk
        have Hall := Lib.hid hall
        have Hre := Lib.hid hre
        have Hflat := Lib.hid hflat
        clear oo hc hk hall hre hflat
        go_wp2_with fail
        refine Hc.out.mono ?_
        rintro e w2 ⟨A2, c2', g2, rfl, -, -, o2, hk2⟩
        generalize (D.readL (i : Int)).length = M2
        have hb := own_bytes o2 ok hkl
        unfold dp at hb
        clear c2 Hc
        have Hb := Lib.hid hb
        have Hk2 := Lib.hid hk2
        clear hb hk2
        go_wp2_with fail
        refine Hb.out.mono ?_
        rintro e w3 ⟨A3, c3, g3, rfl, hr3, -, o3, hk3⟩
        have dc := conv_rdB hr3 Hflat.out
        have hkr : Keeps nowhere w w3 := (Hk.out.more Hk2.out).more hk3
        have d4 := (H.out.same hkr).cell 4
        rw [ag.off, ← Hf.out] at d4
        simp only [List.getElem?_toArray, List.getElem?_cons_succ, List.getElem?_cons_zero] at d4
        generalize D.kept.flatten.length = M3 at dc ⊢
        clear hr3 Hb
        have Hkr := Lib.hid hkr
        have O3 := Lib.hid o3
        clear hkr o3
        go_wp2_with fail
        go_ret
        exact ⟨rfl, Hkr.out⟩
end
end Go.Proofs.Ytnddaildicmneaa
/-
  disk: Of refuses; loggialaw7.DiskOf.
-/
namespace Go.Proofs.Ytnddaildicmneaa
open Go.Proofs Go.RowKit

set_option maxRecDepth 20000 in
set_option maxHeartbeats 4000000 in
theorem dof_bad (A : Option Addr) (N c : Nat) (z : Int) (w : World) (hN : N ≤ 1000000000) (hz2 : z ≤ 9223372036854775807) (hb : ¬ (64 ≤ z ∧ z ≤ 1024 ∧ (N : Int) % z = 0 ∧ 1 ≤ (N : Int) / z ∧ (N : Int) / z ≤ 16384)) :
    Calls Try.prog 35 #[.slice A N c, .int .i64 z] w fun e w' => e = .returned (.tuple #[.pointer none, .int .i64 1]) ∧ w' = w := by
  by_cases h1 : z < 64
  · have Hb := Lib.hid hb
    clear hb
    go_enter Try.func35, Try.ntmps35
    go_wp2_with fail
    go_ret2
    exact ⟨rfl, rfl⟩
  · by_cases h2 : 1024 < z
    · have Hb := Lib.hid hb
      clear hb
      go_enter Try.func35, Try.ntmps35
      go_wp2_with fail
      go_ret2
      exact ⟨rfl, rfl⟩
    · have hz0 : ((z : Int) == 0) = false := by simp; omega
      have hz00 : ¬ (z : Int) = 0 := by omega
      have e1 : Int.tmod (N : Int) z = (N : Int) % z := Int.tmod_eq_emod_of_nonneg (by omega)
      have e2 : Int.tdiv (N : Int) z = (N : Int) / z := Int.tdiv_eq_ediv_of_nonneg (by omega)
      by_cases h3 : (N : Int) % z = 0
      · have h4 : ¬ (1 ≤ (N : Int) / z ∧ (N : Int) / z ≤ 16384) := fun h => hb ⟨by omega, by omega, h3, h.1, h.2⟩
        obtain ⟨q, hq⟩ : ∃ q, q = (N : Int) / z := ⟨_, rfl⟩
        have hq0 : 0 ≤ q := by rw [hq]; exact Int.ediv_nonneg (by omega) (by omega)
        have hqN : q ≤ N := by
          rw [hq]
          exact Int.ediv_le_self _ (by omega)
        rw [← hq] at e2 h4
        rw [h3] at e1
        have hw2 : IntKind.i64.wrap q = q := IntWalk.i64_in _ (by omega)
        have hr := right_any q z w
        rw [show (decide (1 ≤ q) && decide (q ≤ 16384) && decide (64 ≤ z) && decide (z ≤ 1024)) = false by
          cases hh : (decide (1 ≤ q) && decide (q ≤ 16384) && decide (64 ≤ z) && decide (z ≤ 1024)) with
          | false => rfl
          | true => simp at hh; exact absurd ⟨hh.1.1.1, hh.1.1.2⟩ h4] at hr
        have Hb := Lib.hid hb
        have Hr := Lib.hid hr
        have H4 := Lib.hid h4
        have Hq := Lib.hid hq
        have H3 := Lib.hid h3
        clear hb hr h4 hq h3
        go_enter Try.func35, Try.ntmps35
        go_wp2_with fail
        refine Hr.out.mono ?_
        rintro e w' ⟨rfl, rfl⟩
        go_wp2_with fail
        go_ret2
        exact ⟨rfl, rfl⟩
      · obtain ⟨m, hm⟩ : ∃ m, m = (N : Int) % z := ⟨_, rfl⟩
        rw [← hm] at e1 h3
        have hm0 : 0 ≤ m := by rw [hm]; exact Int.emod_nonneg _ (by omega)
        have hmz : m < z := by rw [hm]; exact Int.emod_lt_of_pos _ (by omega)
        have hw2 : IntKind.i64.wrap m = m := IntWalk.i64_in _ (by omega)
        have h3' : (m != 0) = true := by simp [h3]
        have Hb := Lib.hid hb
        have Hm := Lib.hid hm
        have E2 := Lib.hid e2
        clear hb hm e2
        go_enter Try.func35, Try.ntmps35
        go_wp2_with fail
        go_ret2
        exact ⟨rfl, rfl⟩
theorem pieces_take (L : List UInt8) (z : Nat) : ∀ k, ((List.range k).map fun x => pieceL L z (x * z)).flatten = L.take (k * z)
  | 0 => by simp
  | k + 1 => by
    rw [List.range_succ, List.map_append, List.flatten_append, pieces_take L z k, Nat.succ_mul, List.take_add]
    simp [pieceL]
theorem pieces_all {n z : Nat} {L : List UInt8} (h : L.length = n * z) : (ofD L z (List.finRange n)).kept.flatten = L := by
  have e : (List.finRange n).map (fun x => pieceL L z (x.val * z)) = (List.range n).map fun x => pieceL L z (x * z) := List.ext_getElem (by simp) (fun i h1 h2 => by simp)
  show ((List.finRange n).map (fun x => pieceL L z (x.val * z))).flatten = L
  rw [e, pieces_take, ← h, List.take_length]
theorem ofD_ok {n z : Nat} (L : List UInt8) (hz : z ≤ 1024) (hnz : n * z ≤ 1000000) (hn : n ≤ 16384) : DOk (ofD L z (List.finRange n)) :=
  ⟨by simp [ofD], by show z ≤ _; omega, by simp [ofD]; omega, by simp [ofD]; omega, by simp [ofD], (fun h => by cases h), by simp [ofD]⟩
end Go.Proofs.Ytnddaildicmneaa
/-
  loggialaw7.DiskOf: the walk.
-/
namespace Go.Proofs.Ytnddaildicmneaa
open Go.Proofs Go.RowKit

theorem dk_of (b o c n z : Nat) (g : Option Nat) (L : List UInt8) (w : World) (hr : recB.Rd w (.slice (some ⟨b, o, none⟩) (n * z) c) g L) (hn : 1 ≤ n) (hz1 : 64 ≤ z) (hz2 : z ≤ 1024) (hnz : n * z ≤ 1000000) :
    Calls Try.prog 35 #[.slice (some ⟨b, o, none⟩) (n * z) c, .int .i64 z] w fun e w' => ∃ t F', e = .returned (.tuple #[dp t, .int .i64 0]) ∧ DOwn w w' t F' (ofD L z (List.finRange n)) := by
  refine (dof_ok b o c n z g L w hr hn hz1 hz2 hnz).mono ?_
  rintro e w' ⟨r, he, t, b', kv', kp', ks', vs', rfl, hd, hF, hk⟩
  exact ⟨t, _, he, ⟨b', kv', kp', ks', vs', rfl, hd⟩, hF, hk⟩
theorem dof_long (A : Option Addr) (N c : Nat) (z : Int) (w : World) (h : 3000 < N) : Calls Try.prog 9 #[.slice A N c, .int .i64 z] w (YesD w) := by
  have hkn := known7 w
  have g1 : (3000 : Int) < (N : Int) := by omega
  have Hkn := Lib.hid hkn
  clear hkn
  go_enter Try.func9, Try.ntmps9
  go_wp2_with fail
  refine (Hkn.out).mono ?_
  rintro e w1 ⟨rfl, hk1⟩
  go_wp2_with fail
  go_ret
  exact ⟨rfl, hk1⟩
set_option maxRecDepth 20000 in
set_option maxHeartbeats 4000000 in
theorem diskof_bad (A : Option Addr) (N c : Nat) (z : Int) (w : World) (h : ¬ 3000 < N) (hz2 : z ≤ 9223372036854775807) (hb : ¬ (64 ≤ z ∧ z ≤ 1024 ∧ (N : Int) % z = 0 ∧ 1 ≤ (N : Int) / z ∧ (N : Int) / z ≤ 16384)) : Calls Try.prog 9 #[.slice A N c, .int .i64 z] w (YesD w) := by
  have hkn := known7 w
  have hof := fun w => dof_bad A N c z w (by omega) hz2 hb
  have g1 : ¬ (3000 : Int) < (N : Int) := by omega
  by_cases h1 : 64 ≤ z
  · by_cases h2 : z ≤ 1024
    · have hz0 : ((z : Int) == 0) = false := by simp; omega
      have hz00 : ¬ (z : Int) = 0 := by omega
      by_cases h3 : 0 < N
      · have h3I : (0 : Int) < (N : Int) := by omega
        have e1 : Int.tmod (N : Int) z = (N : Int) % z := Int.tmod_eq_emod_of_nonneg (by omega)
        obtain ⟨m, hm⟩ : ∃ m, m = (N : Int) % z := ⟨_, rfl⟩
        have hm3 : ¬ m = 0 := fun e => by
          have hd0 : (N : Int) % z = 0 := by rw [← hm]; exact e
          have hdd := Int.mul_ediv_add_emod (N : Int) z
          rw [hd0, Int.add_zero] at hdd
          have hq0 : 0 ≤ (N : Int) / z := Int.ediv_nonneg (by omega) (by omega)
          have hq1 : 1 ≤ (N : Int) / z := by
            rcases Int.lt_or_le 0 ((N : Int) / z) with h | h
            · omega
            · have h0 : (N : Int) / z = 0 := by omega
              rw [h0, Int.mul_zero] at hdd
              omega
          have hqN : (N : Int) / z ≤ N := Int.ediv_le_self _ (by omega)
          exact hb ⟨h1, h2, hd0, hq1, by omega⟩
        rw [← hm] at e1
        have hm0 : 0 ≤ m := by rw [hm]; exact Int.emod_nonneg _ (by omega)
        have hmz : m < z := by rw [hm]; exact Int.emod_lt_of_pos _ (by omega)
        have hw2 : IntKind.i64.wrap m = m := IntWalk.i64_in _ (by omega)
        have hm4 : (m == 0) = false := by simp [hm3]
        have Hkn := Lib.hid hkn
        have Hof := Lib.hid hof
        have Hb := Lib.hid hb
        have Hm := Lib.hid hm
        clear hkn hof hb hm
        go_enter Try.func9, Try.ntmps9
        go_wp2_with fail
        refine (Hkn.out).mono ?_
        rintro e w1 ⟨rfl, hk1⟩
        go_wp2_with fail
        refine (Hof.out w1).mono ?_
        rintro e w2 ⟨rfl, rfl⟩
        go_wp2_with fail
        go_ret
        exact ⟨rfl, hk1⟩
      · obtain rfl : N = 0 := by omega
        have Hkn := Lib.hid hkn
        have Hof := Lib.hid hof
        have Hb := Lib.hid hb
        clear hkn hof hb
        go_enter Try.func9, Try.ntmps9
        go_wp2_with fail
        refine (Hkn.out).mono ?_
        rintro e w1 ⟨rfl, hk1⟩
        go_wp2_with fail
        refine (Hof.out w1).mono ?_
        rintro e w2 ⟨rfl, rfl⟩
        go_wp2_with fail
        go_ret
        exact ⟨rfl, hk1⟩
    · have h2d : decide (z ≤ 1024) = false := by simp; omega
      have Hkn := Lib.hid hkn
      have Hof := Lib.hid hof
      have Hb := Lib.hid hb
      clear hkn hof hb
      go_enter Try.func9, Try.ntmps9
      go_wp2_with fail
      refine (Hkn.out).mono ?_
      rintro e w1 ⟨rfl, hk1⟩
      go_wp2_with fail
      refine (Hof.out w1).mono ?_
      rintro e w2 ⟨rfl, rfl⟩
      go_wp2_with fail
      go_ret
      exact ⟨rfl, hk1⟩
  · have h1d : decide (64 ≤ z) = false := by simp; omega
    have Hkn := Lib.hid hkn
    have Hof := Lib.hid hof
    have Hb := Lib.hid hb
    clear hkn hof hb
    go_enter Try.func9, Try.ntmps9
    go_wp2_with fail
    refine (Hkn.out).mono ?_
    rintro e w1 ⟨rfl, hk1⟩
    go_wp2_with fail
    refine (Hof.out w1).mono ?_
    rintro e w2 ⟨rfl, rfl⟩
    go_wp2_with fail
    go_ret
    exact ⟨rfl, hk1⟩
set_option maxRecDepth 20000 in
set_option maxHeartbeats 8000000 in
theorem diskof_ok (b o c n z : Nat) (g : Option Nat) (L : List UInt8) (w : World) (hr : recB.Rd w (.slice (some ⟨b, o, none⟩) (n * z) c) g L) (hn : 1 ≤ n) (hz1 : 64 ≤ z) (hz2 : z ≤ 1024) (hnz : n * z ≤ 3000) :
    Calls Try.prog 9 #[.slice (some ⟨b, o, none⟩) (n * z) c, .int .i64 z] w (YesD w) := by
  have hkn := known7 w
  have hof := fun (w' : World) (hk : Keeps nowhere w w') => dk_of b o c n z g L w' (hr.same hk) hn hz1 hz2 (by omega)
  have hLl : L.length = n * z := by
    obtain ⟨_, _, hv, -⟩ := id hr
    injection hv with _ h _
    exact h.symm
  have hn2 : n ≤ 16384 := by
    have : n * 64 ≤ n * z := Nat.mul_le_mul_left _ hz1
    omega
  have hok := ofD_ok (n := n) L hz2 (by omega) hn2
  have hall := pieces_all hLl
  obtain ⟨N, hN⟩ : ∃ N, N = n * z := ⟨_, rfl⟩
  have hNp : 0 < N := by rw [hN]; exact Nat.mul_pos (by omega) (by omega)
  have e1 : Int.tmod (N : Int) (z : Int) = 0 := by rw [hN, Int.tmod_eq_emod_of_nonneg (by omega)]; simp
  have e2 : Int.tdiv (N : Int) (z : Int) = n := by rw [hN, Int.tdiv_eq_ediv_of_nonneg (by omega)]; push_cast; exact Int.mul_ediv_cancel _ (by omega)
  have hw1 : IntKind.i64.wrap (0 : Int) = 0 := rfl
  have hw2 : IntKind.i64.wrap (n : Int) = n := IntWalk.i64_in _ (by omega)
  have hz0 : ((z : Int) == 0) = false := by simp; omega
  have hz00 : ¬ (z : Int) = 0 := by omega
  have hzN : ¬ z = 0 := by omega
  have g0 : ¬ (3000 : Int) < (N : Int) := by omega
  have g1 : (64 : Int) ≤ (z : Int) := by omega
  have g2 : (z : Int) ≤ 1024 := by omega
  have g3 : (0 : Int) < (N : Int) := by omega
  rw [← hN] at hr hof hLl ⊢
  have Hkn := Lib.hid hkn
  have Hof := Lib.hid hof
  have Hr := Lib.hid hr
  have HN := Lib.hid hN
  have Hok := Lib.hid hok
  have Hall := Lib.hid hall
  have HLl := Lib.hid hLl
  clear hkn hof hr hN hok hall hLl
  go_enter Try.func9, Try.ntmps9
  go_wp2_with fail
  refine (Hkn.out).mono ?_
  rintro e w1 ⟨rfl, hk1⟩
  clear Hkn
  have hc := Hof.out w1 hk1
  have Hk1 := Lib.hid hk1
  have Hc := Lib.hid hc
  clear hk1 hc
  go_wp2_with fail
  refine (Hc.out).mono ?_
  rintro e w2 ⟨d, F2, rfl, o2⟩
  clear Hc
  unfold dp
  have hc := own_cut _ none [] o2 Hok.out (RecT.Rd.nil recBo w2) (fun k e => by cases e)
  unfold dp at hc
  have O2 := Lib.hid o2
  have Hc := Lib.hid hc
  clear o2 hc
  go_wp2_with fail
  refine (Hc.out).mono ?_
  rintro e w3 ⟨rfl, F3, o3, -, -⟩
  clear Hc
  have hc := own_on o3
  unfold dp at hc
  have O3 := Lib.hid o3
  have Hc := Lib.hid hc
  clear o3 hc
  go_wp2_with fail
  refine (Hc.out).mono ?_
  rintro e w4 ⟨rfl, F4, o4, -, -⟩
  clear Hc
  obtain ⟨D, hD⟩ : ∃ D, D = ((ofD L z (List.finRange n)).cut []).on := ⟨_, rfl⟩
  have d1 : D.kept = (ofD L z (List.finRange n)).kept := by rw [hD]; rfl
  have d2 : D.kept.length = n := by rw [d1]; simp [ofD]
  have d3 : D.size = z := by rw [hD]; rfl
  have d4 : D.pend = [] := by rw [hD]; rfl
  have d5 : D.kept.flatten = L := by rw [d1]; exact Hall.out
  have hokD : DOk D := by
    rw [hD]
    have h := Hok.out.cut []
    exact ⟨h.pend, h.size, h.kept, h.all, h.writes, h.arm, h.keep⟩
  rw [← hD] at o4
  have hc := own_shape o4
  rw [d2, d3] at hc
  unfold dp at hc
  clear hD
  have O4 := Lib.hid o4
  have Hc := Lib.hid hc
  have D1 := Lib.hid d1
  have D2 := Lib.hid d2
  have D3 := Lib.hid d3
  have D4 := Lib.hid d4
  have D5 := Lib.hid d5
  have HokD := Lib.hid hokD
  clear o4 hc d1 d2 d3 d4 d5 hokD
  go_wp2_with fail
  refine (Hc.out).mono ?_
  rintro e w5 ⟨rfl, o5, hk5⟩
  clear Hc
  have hkd := (Keeps.refl nowhere w5).drew
  have hkw := Hk1.out.more (o5.kp.more hkd)
  have hcb := own_bytes (o5.same hkd) HokD.out (by rw [D2.out]; omega)
  rw [D5.out, HLl.out] at hcb
  unfold dp at hcb
  have q4 : ∀ w', Keeps nowhere w5.drew w' → (convert 41 9 (.slice (some ⟨b, o, none⟩) N c)).run Try.prog w' = .ok (.string (strOf L)) w' := fun w' h => conv_rdB ((Hr.out.same hkw).same h) (by rw [HLl.out]; exact hNp)
  clear hkd
  have O5 := Lib.hid o5
  have Hk5 := Lib.hid hk5
  have Hkw := Lib.hid hkw
  have Hcb := Lib.hid hcb
  clear o5 hk5 hkw hcb
  go_wp2_with fail
  refine wp_region_script [0, 2, 3, 4, 5, 6, 7, 8, 9, 10, 11, 12, 13, 14, 15, 16, 17, 18, 19, 20, 22, 23, 24] [2, 4] [.ps [0, 3], .fs [4], .es [1] true, .fs [2], .ps [5, 6], .ps [7, 8, 9], .ps [10, 11, 12], .ps [13, 14], .ps [15, 16, 17], .ps [18, 19], .ps [20], .es [21] false, .ps [22, 23, 24]] (Keeps nowhere w5.drew) rfl (by kernel_rfl) ?_
  refine wpS_ps rfl fun K hK => ?_
  simp only [List.map_cons, List.map_nil, Option.getD_some, List.getElem?_toArray, List.getElem?_cons_zero, List.getElem?_cons_succ]
  iterate 2 (first | (apply quietO_cons _ rfl; (intro w' _; go_simp; rfl)) | apply quietO_skip rfl)
  refine hK _ ?_
  clear hK K
  simp only [Act.put, List.setIfInBounds_toArray, List.set_cons_zero, List.set_cons_succ]
  refine wpS_fs rfl (Keeps.refl _ _) fun K hK => ?_
  simp only [List.map_cons, List.map_nil, Option.getD_some, List.getElem?_toArray, List.getElem?_cons_zero, List.getElem?_cons_succ]
  iterate 1 (first | (apply quietO_cons _ rfl; (intro w' hs; have c_0 := q4 w' hs; go_simp; rfl)) | apply quietO_skip rfl)
  refine hK _ ?_
  clear hK K
  simp only [Act.put, List.setIfInBounds_toArray, List.set_cons_zero, List.set_cons_succ]
  refine wpS_es rfl fun K hK => ?_
  have HK := Lib.hid hK
  clear hK
  simp only [List.map_cons, List.map_nil, Option.getD_some, List.getElem?_toArray, List.getElem?_cons_zero, List.getElem?_cons_succ]
  go_wp2_with fail
  refine Hcb.out.mono ?_
  rintro e w6 ⟨A6, c6, g6, rfl, hr6, -, o6, hk6⟩
  have q2 : ∀ w', Keeps nowhere w6 w' → (convert 41 9 (.slice A6 N c6)).run Try.prog w' = .ok (.string (strOf L)) w' := fun w' h => conv_rdB (hr6.same h) (by rw [HLl.out]; exact hNp)
  have hcp := dk_pending o6.k
  rw [D4.out] at hcp
  unfold dp at hcp
  have hkf := o6.kp
  clear Hcb hr6
  have O6 := Lib.hid o6
  have Hcp := Lib.hid hcp
  have Hkf := Lib.hid hkf
  clear o6 hcp hkf
  go_wp2_with fail
  refine HK.out _ _ (fun _ => hk6) ?_
  clear HK K
  refine wpS_fx rfl (Keeps nowhere w6) (fun w' h => hk6.more h) (Keeps.refl nowhere w6) fun K hK => ?_
  simp only [List.map_cons, List.map_nil, Option.getD_some, List.getElem?_toArray, List.getElem?_cons_zero, List.getElem?_cons_succ]
  iterate 1 (first | (apply quietO_cons _ rfl; (intro w' hs; have c_0 := q2 w' hs; go_simp; rfl)) | apply quietO_skip rfl)
  refine hK _ ?_
  clear hK K
  simp only [Act.put, List.setIfInBounds_toArray, List.set_cons_zero, List.set_cons_succ]
  refine wpS_ps rfl fun K hK => ?_
  simp only [List.map_cons, List.map_nil, Option.getD_some, List.getElem?_toArray, List.getElem?_cons_zero, List.getElem?_cons_succ]
  iterate 2 (first | (apply quietO_cons _ rfl; (intro w' _; go_simp; rfl)) | apply quietO_skip rfl)
  refine hK _ ?_
  clear hK K
  simp only [Act.put, List.setIfInBounds_toArray, List.set_cons_zero, List.set_cons_succ]
  refine wpS_ps rfl fun K hK => ?_
  simp only [List.map_cons, List.map_nil, Option.getD_some, List.getElem?_toArray, List.getElem?_cons_zero, List.getElem?_cons_succ]
  iterate 3 (first | (apply quietO_cons _ rfl; (intro w' _; go_simp; rfl)) | apply quietO_skip rfl)
  refine hK _ ?_
  clear hK K
  simp only [Act.put, List.setIfInBounds_toArray, List.set_cons_zero, List.set_cons_succ]
  refine wpS_ps rfl fun K hK => ?_
  simp only [List.map_cons, List.map_nil, Option.getD_some, List.getElem?_toArray, List.getElem?_cons_zero, List.getElem?_cons_succ]
  iterate 3 (first | (apply quietO_cons _ rfl; (intro w' _; go_simp; rfl)) | apply quietO_skip rfl)
  refine hK _ ?_
  clear hK K
  simp only [Act.put, List.setIfInBounds_toArray, List.set_cons_zero, List.set_cons_succ]
  refine wpS_ps rfl fun K hK => ?_
  simp only [List.map_cons, List.map_nil, Option.getD_some, List.getElem?_toArray, List.getElem?_cons_zero, List.getElem?_cons_succ]
  iterate 2 (first | (apply quietO_cons _ rfl; (intro w' _; go_simp; rfl)) | apply quietO_skip rfl)
  refine hK _ ?_
  clear hK K
  simp only [Act.put, List.setIfInBounds_toArray, List.set_cons_zero, List.set_cons_succ]
  refine wpS_ps rfl fun K hK => ?_
  simp only [List.map_cons, List.map_nil, Option.getD_some, List.getElem?_toArray, List.getElem?_cons_zero, List.getElem?_cons_succ]
  iterate 3 (first | (apply quietO_cons _ rfl; (intro w' _; go_simp; rfl)) | apply quietO_skip rfl)
  refine hK _ ?_
  clear hK K
  simp only [Act.put, List.setIfInBounds_toArray, List.set_cons_zero, List.set_cons_succ]
  refine wpS_ps rfl fun K hK => ?_
  simp only [List.map_cons, List.map_nil, Option.getD_some, List.getElem?_toArray, List.getElem?_cons_zero, List.getElem?_cons_succ]
  iterate 2 (first | (apply quietO_cons _ rfl; (intro w' _; go_simp; rfl)) | apply quietO_skip rfl)
  refine hK _ ?_
  clear hK K
  simp only [Act.put, List.setIfInBounds_toArray, List.set_cons_zero, List.set_cons_succ]
  refine wpS_ps rfl fun K hK => ?_
  simp only [List.map_cons, List.map_nil, Option.getD_some, List.getElem?_toArray, List.getElem?_cons_zero, List.getElem?_cons_succ]
  iterate 1 (first | (apply quietO_cons _ rfl; (intro w' _; go_simp; rfl)) | apply quietO_skip rfl)
  refine hK _ ?_
  clear hK K
  simp only [Act.put, List.setIfInBounds_toArray, List.set_cons_zero, List.set_cons_succ]
  clear q2 q4
  refine wpS_es rfl fun K hK => ?_
  have HK := Lib.hid hK
  clear hK
  simp only [List.map_cons, List.map_nil, Option.getD_some, List.getElem?_toArray, List.getElem?_cons_zero, List.getElem?_cons_succ]
  go_wp2_with fail
  refine Hcp.out.mono ?_
  rintro e w7 ⟨rfl, rfl⟩
  go_wp2_with fail
  refine HK.out _ _ (fun h => by cases h) ?_
  clear HK K
  refine wpS_ps rfl fun K hK => ?_
  simp only [List.map_cons, List.map_nil, Option.getD_some, List.getElem?_toArray, List.getElem?_cons_zero, List.getElem?_cons_succ]
  iterate 3 (first | (apply quietO_cons _ rfl; (intro w' _; go_simp; rfl)) | apply quietO_skip rfl)
  refine hK _ ?_
  clear hK K
  simp only [Act.put, List.setIfInBounds_toArray, List.set_cons_zero, List.set_cons_succ]
  refine wpS_nil ?_
  go_wp2_with fail
  go_ret
  exact ⟨by simp, Hk1.out.more Hkf.out⟩
theorem diskof_all (A : Option Addr) (c : Nat) (g : Option Nat) (L : List UInt8) (z : Int) (w : World) (hr : recB.Rd w (.slice A L.length c) g L) (hz2 : z ≤ 9223372036854775807) : Calls Try.prog 9 #[.slice A L.length c, .int .i64 z] w (YesD w) := by
  by_cases h : 3000 < L.length
  · exact dof_long A _ c z w h
  · by_cases hb : 64 ≤ z ∧ z ≤ 1024 ∧ (L.length : Int) % z = 0 ∧ 1 ≤ (L.length : Int) / z ∧ (L.length : Int) / z ≤ 16384
    · obtain ⟨h1, h2, h3, h4, h5⟩ := hb
      obtain ⟨m, rfl⟩ := Int.eq_ofNat_of_zero_le (by omega : 0 ≤ z)
      obtain ⟨n, hn⟩ := Int.eq_ofNat_of_zero_le (by omega : 0 ≤ (L.length : Int) / m)
      have hdd := Int.mul_ediv_add_emod (L.length : Int) (m : Int)
      rw [h3, Int.add_zero, hn] at hdd
      have hl : L.length = n * m := by
        have : ((m * n : Nat) : Int) = (L.length : Nat) := by push_cast; exact hdd
        have := Int.ofNat_inj.1 this
        rw [← this, Nat.mul_comm]
      obtain ⟨A', c', hv, -, -, -, h6, -⟩ := id hr
      injection hv with hA _ _
      obtain ⟨b, o, hA2, -, -⟩ := h6 (by rw [hl]; exact Nat.mul_pos (by omega) (by omega))
      rw [← hA] at hA2
      subst hA2
      rw [hl] at hr ⊢
      exact diskof_ok b o c n m g L w hr (by omega) (by omega) (by omega) (by omega)
    · exact diskof_bad A _ c z w h hz2 hb
end Go.Proofs.Ytnddaildicmneaa
/-
  loggialaw8.PagesBytes: the walk.
-/
namespace Go.Proofs.Ytnddaildicmneaa
open Go.Proofs Go.RowKit Go.Sort Go.Maps

theorem newV_fits (B : BookV) (D : DiskV) : ∀ i, (newV B D i).2 = true → fitsN B.n (newV B D i).1.pages
  | 0 => fun h => by cases h
  | i + 1 => fun h => by
    have ih := newV_fits B D i
    unfold newV nstep at h ⊢
    cases hx : headV (D.readL ((B.a + i : Nat) : Int)) B.n i with
    | none =>
      rw [hx] at h
      exact ih h
    | some y =>
      rw [hx] at h
      obtain ⟨g, p⟩ := y
      simp only at h ⊢
      split at h
      · rename_i hc
        rw [if_pos hc]
        exact (headV_par hx).2
      · rename_i hc
        rw [if_neg hc]
        exact ih h
/-- how many bytes are put behind -/
def padN (l : Nat) : Nat := if l = 0 then 64 else (64 - l % 64) % 64
theorem padN_at {l k : Nat} (hk : k ≤ padN l) : (l + k = 0 ∨ (l + k) % 64 ≠ 0) ↔ k < padN l := by
  unfold padN at hk ⊢
  split
  · rename_i h
    rw [if_pos h] at hk
    omega
  · rename_i h
    rw [if_neg h] at hk
    omega
theorem padN_le (l : Nat) : padN l ≤ 64 := by unfold padN; split <;> omega
def lenOf : Value → Nat
  | .slice _ n _ => n
  | _ => 0
set_option maxRecDepth 20000 in
set_option maxHeartbeats 8000000 in
theorem pbytes_long (A : Option Addr) (N c : Nat) (a n : Int) (w : World) (h : 4096 < N) : Calls Try.prog 12 #[.slice A N c, .int .i64 a, .int .i64 n] w (YesD w) := by
  have hkn := known8 w
  have g1 : (4096 : Int) < (N : Int) := by omega
  have Hkn := Lib.hid hkn
  clear hkn
  go_enter Try.func12, Try.ntmps12
  go_wp2_with fail
  refine (Hkn.out).mono ?_
  rintro e w1 ⟨rfl, hk1⟩
  go_wp2_with fail
  go_ret
  exact ⟨rfl, hk1⟩
set_option maxRecDepth 20000 in
set_option maxHeartbeats 8000000 in
theorem pbytes_any (A : Option Addr) (c : Nat) (g : Option Nat) (L : List UInt8) (a n : Int) (w : World) (hr : recB.Rd w (.slice A L.length c) g L) (hl : L.length ≤ 4096) (ha : a ≤ 9223372036854775807) :
    Calls Try.prog 12 #[.slice A L.length c, .int .i64 a, .int .i64 n] w (YesD w) := by
  have hkn := known8 w
  obtain ⟨N, hN⟩ : ∃ N, N = L.length := ⟨_, rfl⟩
  rw [← hN] at hr hl ⊢
  have g1 : ¬ (4096 : Int) < (N : Int) := by omega
  have Hkn := Lib.hid hkn
  have Hr := Lib.hid hr
  have HN := Lib.hid hN
  clear hkn hr hN
  go_enter Try.func12, Try.ntmps12
  go_wp2_with fail
  refine (Hkn.out).mono ?_
  rintro e w1 ⟨rfl, hk1⟩
  have hka : Keeps nowhere w1 (w1.alloc (.cells #[] 5)) := (Keeps.refl nowhere w1).alloc _
  have hE := RecT.Row.empty recB w1
  have hrd := (Hr.out.same hk1).same hka
  have hlb : ([] : List UInt8).length + L.length ≤ 100000000 := by rw [← HN.out]; simp; omega
  have Hk1 := Lib.hid hk1
  have Hka := Lib.hid hka
  have HE := Lib.hid hE
  have Hrd := Lib.hid hrd
  have Hlb := Lib.hid hlb
  clear hk1 hka hE hrd hlb
  go_wp2_with (at_builtin; go_must (refine RecT.wpList_append (R := recB) Try.underlying41 infoB rfl (by decide) rfl (.tmp 17) (.tmp 18) rfl _ [] rfl HE.out _ _ L rfl Hrd.out Hlb.out ?_))
  intro v2 w2 hrow2 hk2 hfr2
  have hkw2 : Keeps nowhere w w2 := (Hk1.out.more Hka.out).trans hk2 (fun b hb e => by have e2 : w1.heap.size = b := by simpa [Value.ownBlock] using e
                                                                                       have := Hk1.out.size
                                                                                       omega)
  have hab2 : Above w.heap.size v2.ownBlock := fun b hb => (hfr2 b hb).elim (fun e => by have e2 : w1.heap.size = b := by simpa [Value.ownBlock] using e
                                                                                         have := Hk1.out.size
                                                                                         omega) (fun e => by have := Hk1.out.size; omega)
  obtain ⟨T, hT⟩ : ∃ T, T = padN N := ⟨_, rfl⟩
  have hT64 : T ≤ 64 := by rw [hT]; exact padN_le _
  clear hfr2 hk2
  have Hkw2 := Lib.hid hkw2
  have Hab2 := Lib.hid hab2
  have Hrow2 := Lib.hid hrow2
  have HT := Lib.hid hT
  clear hkw2 hab2 hrow2 hT
  go_upto_region 6 with fail
  go_loopw [7] (fun cv wr => ∃ k : Nat, k ≤ T ∧ recB.Row wr cv (L ++ zerosB k) ∧ Above w.heap.size cv.ownBlock ∧ Keeps nowhere w wr) (fun cv _ => N + T - (lenOf cv))
  case atStart => exact ⟨0, Nat.zero_le _, by simpa [zerosB] using Hrow2.out, Hab2.out, Hkw2.out⟩
  case round =>
    obtain ⟨k, hk, hrow, hab, hkr⟩ := hrel
    obtain ⟨cA, cc, rfl, -⟩ := hrow.form
    have hlen : (L ++ zerosB k).length = N + k := by rw [List.length_append, ← HN.out]; simp [zerosB]
    rw [hlen] at hrow hab ⊢
    have hat := padN_at (l := N) (k := k) (by rw [← HT.out]; exact hk)
    rw [← HT.out] at hat
    obtain ⟨m, hm⟩ : ∃ m, m = N + k := ⟨_, rfl⟩
    have hm64 : m ≤ 4096 + 64 := by omega
    rw [← hm] at hrow hab hat ⊢
    have hlb : (L ++ zerosB k).length + [(0 : UInt8)].length ≤ 100000000 := by rw [hlen]; simp; omega
    have hka : Keeps nowhere wr (wr.alloc (.cells #[.int .u8 0] 5)) := (Keeps.refl nowhere wr).alloc _
    have hrd := RecT.Rd.one recB wr 0
    change recB.Rd (wr.alloc (.cells #[.int .u8 0] 5)) (.slice (some ⟨wr.heap.size, 0, none⟩) 1 1) (some wr.heap.size) [0] at hrd
    have hrowA := hrow.same hka
    have hnx : L ++ (zerosB k ++ [0]) = L ++ zerosB (k + 1) := by congr 1; unfold zerosB; rw [List.replicate_succ']
    have hgo : ∀ (v' : Value) (w' : World), recB.Row w' v' (L ++ (zerosB k ++ [0])) → Keeps (fun b => (Value.slice cA m cc).ownBlock = some b) (wr.alloc (.cells #[.int .u8 0] 5)) w' → From (Value.slice cA m cc).ownBlock (wr.heap.size + 1) v'.ownBlock → recB.Row w' v' (L ++ zerosB (k + 1)) ∧ Above w.heap.size v'.ownBlock ∧ Keeps nowhere w w' ∧ lenOf v' = m + 1 := fun v' w' h1 h2 h3 => by
      rw [hnx] at h1
      refine ⟨h1, fun b hb => (h3 b hb).elim (fun e => hab b e) (fun e => by have := hkr.size; omega), (hkr.more hka).trans h2 (fun b hb e => by have := hab b e; omega), ?_⟩
      obtain ⟨A', c', e, -⟩ := h1.form
      rw [e]
      show (L ++ zerosB (k + 1)).length = _
      rw [List.length_append, ← HN.out]
      simp [zerosB]; omega
    by_cases hlt : k < T
    · by_cases h0 : m = 0
      · subst h0
        clear hat
        have Hm := Lib.hid hm
        have Hlb := Lib.hid hlb
        have Hka := Lib.hid hka
        have Hrd := Lib.hid hrd
        have HrowA := Lib.hid hrowA
        have Hgo := Lib.hid hgo
        have Hrow := Lib.hid hrow
        have Hab := Lib.hid hab
        have Hkr := Lib.hid hkr
        have Hnx := Lib.hid hnx
        have Hlen := Lib.hid hlen
        clear hm hlb hka hrd hrowA hgo hrow hab hkr hnx hlen
        go_wp2_with (at_builtin; go_must (refine RecT.wpList_append (R := recB) Try.underlying41 infoB rfl (by decide) rfl (.tmp 29) (.tmp 30) rfl _ (L ++ zerosB k) rfl HrowA.out _ _ [0] rfl Hrd.out Hlb.out ?_))
        intro v5 w5 hr5 hk5 hf5
        obtain ⟨h1, h2, h3, h4⟩ := Hgo.out v5 w5 hr5 hk5 hf5
        clear hr5 hk5 hf5
        have H1 := Lib.hid h1
        have H2 := Lib.hid h2
        have H3 := Lib.hid h3
        have H4 := Lib.hid h4
        clear h1 h2 h3 h4
        go_wp2_with fail
        go_roundw
        case rel => exact ⟨k + 1, by omega, H1.out, H2.out, H3.out⟩
        case measure => rw [H4.out]; simp [lenOf]; have := Hm.out; omega
      · obtain ⟨r, hr⟩ : ∃ r, r = m % 64 := ⟨_, rfl⟩
        have hr0 : ¬ r = 0 := by have := hat.2 hlt; omega
        have hm0 : ¬ (m : Int) = 0 := by omega
        have hm0b : ((m : Int) == 0) = false := by simp; omega
        have hrem : Int.tmod (m : Int) 64 = (r : Int) := by rw [Int.tmod_eq_emod_of_nonneg (by omega)]; omega
        have hrem2 : (m : Int) % 64 = (r : Int) := by omega
        have hrw : IntKind.i64.wrap (r : Int) = r := IntWalk.i64_in _ (by omega)
        have hrn : ((r : Int) != 0) = true := by simp; omega
        clear hat h0
        have Hm := Lib.hid hm
        have Hlb := Lib.hid hlb
        have Hka := Lib.hid hka
        have Hrd := Lib.hid hrd
        have HrowA := Lib.hid hrowA
        have Hgo := Lib.hid hgo
        have Hrow := Lib.hid hrow
        have Hab := Lib.hid hab
        have Hkr := Lib.hid hkr
        have Hnx := Lib.hid hnx
        have Hlen := Lib.hid hlen
        have Hr := Lib.hid hr
        clear hm hlb hka hrd hrowA hgo hrow hab hkr hnx hlen hr
        go_wp2_with (at_builtin; go_must (refine RecT.wpList_append (R := recB) Try.underlying41 infoB rfl (by decide) rfl (.tmp 29) (.tmp 30) rfl _ (L ++ zerosB k) rfl HrowA.out _ _ [0] rfl Hrd.out Hlb.out ?_))
        intro v5 w5 hr5 hk5 hf5
        obtain ⟨h1, h2, h3, h4⟩ := Hgo.out v5 w5 hr5 hk5 hf5
        clear hr5 hk5 hf5
        have H1 := Lib.hid h1
        have H2 := Lib.hid h2
        have H3 := Lib.hid h3
        have H4 := Lib.hid h4
        clear h1 h2 h3 h4
        go_wp2_with fail
        go_roundw
        case rel => exact ⟨k + 1, by omega, H1.out, H2.out, H3.out⟩
        case measure => rw [H4.out]; simp [lenOf]; have := Hm.out; omega
    · have hno : ¬ (m = 0 ∨ m % 64 ≠ 0) := fun h => hlt (hat.1 h)
      have h0 : m ≠ 0 := fun h => hno (.inl h)
      have hr0 : m % 64 = 0 := by
        rcases Nat.eq_zero_or_pos (m % 64) with h | h
        · exact h
        · exact absurd (.inr (by omega)) hno
      obtain ⟨p, rfl⟩ : ∃ p, m = p * 64 := ⟨m / 64, by omega⟩
      have hm0 : ¬ ((p * 64 : Nat) : Int) = 0 := by omega
      have hm0b : (((p * 64 : Nat) : Int) == 0) = false := by simp; omega
      have hrem : Int.tmod ((p * 64 : Nat) : Int) 64 = 0 := by rw [Int.tmod_eq_emod_of_nonneg (by omega)]; omega
      have hrem2 : ((p * 64 : Nat) : Int) % 64 = 0 := by omega
      have hrw : IntKind.i64.wrap 0 = 0 := IntWalk.i64_in _ (by omega)
      obtain ⟨b, o, c', hv, -, -⟩ := rdB_at hrow.rd (by rw [hlen, ← hm]; omega)
      injection hv with hA e1 e2
      clear e1 e2
      subst hA
      have hof := dk_of b o cc p 64 _ (L ++ zerosB k) wr hrow.rd (by omega) (by omega) (by omega) (by omega)
      have hp65 : p ≤ 65 := by omega
      clear hat hno h0 hr0 hgo hrowA hrd hka hlb
      obtain ⟨M, hM⟩ : ∃ M, M = p * 64 := ⟨_, rfl⟩
      rw [← hM] at hm0 hm0b hrem hrem2 hof hrow hab ⊢
      have Hm := Lib.hid hm
      have Hrow := Lib.hid hrow
      have Hab := Lib.hid hab
      have Hkr := Lib.hid hkr
      have Hnx := Lib.hid hnx
      have Hlen := Lib.hid hlen
      have Hof := Lib.hid hof
      have HM := Lib.hid hM
      clear hm hrow hab hkr hnx hlen hof hM
      go_wp2_with fail
      refine Hof.out.mono ?_
      rintro e w5 ⟨d, F, rfl, o⟩
      have hkl : (ofD (L ++ zerosB k) 64 (List.finRange p)).kept.length = p := by simp [ofD]
      obtain ⟨D, hD⟩ : ∃ D, D = ofD (L ++ zerosB k) 64 (List.finRange p) := ⟨_, rfl⟩
      have hoff : D.off = false := by rw [hD]; rfl
      have hsz : D.size = 64 := by rw [hD]; rfl
      have hok : DOk D := by
        rw [hD]
        exact ⟨by simp [ofD], by simp [ofD], by rw [hkl]; omega, by rw [hkl]; show p * 64 ≤ _; omega, by simp [ofD], fun e => (by cases e), by simp [ofD]⟩
      rw [← hD] at o hkl
      have hkw := Hkr.out.more o.kp
      have fin : ∀ w6, Keeps nowhere w5 w6 → Keeps nowhere w w6 := fun w6 h => hkw.more h
      by_cases hb : 1 ≤ n ∧ n ≤ D.kept.length ∧ 0 ≤ a ∧ a ≤ D.kept.length - n
      · obtain ⟨b1, b2, b3, b4⟩ := hb
        obtain ⟨a', rfl⟩ := Int.eq_ofNat_of_zero_le b3
        obtain ⟨n', rfl⟩ := Int.eq_ofNat_of_zero_le (show 0 ≤ n by omega)
        cases hfd : (newestV (onB a' n' D.size) D).2 with
        | true =>
          have hft : fitsN n' (openN D a' n').pages := newV_fits (onB a' n' D.size) D _ hfd
          have hop := bopen_ok a' n' o.k hok (by rw [hsz]; omega) hoff (by omega) (by omega) hfd hft
          unfold dp bp at *
          have O := Lib.hid o
          have Hop := Lib.hid hop
          have Hfd := Lib.hid hfd
          have Hft := Lib.hid hft
          have Fin := Lib.hid fin
          have Hkw := Lib.hid hkw
          have HD := Lib.hid hD
          have Hkl := Lib.hid hkl
          have Hsz := Lib.hid hsz
          have Hok := Lib.hid hok
          clear o hop hfd hft fin hkw hD hkl hsz hok
          go_wp2_with fail
          refine (Hop.out).mono ?_
          rintro e w6 ⟨s, M, rfl, hdk, hbp, -, hk6⟩
          have hpg := bpages_any hbp
          unfold bp at hpg
          have hge : (0 : Int) ≤ ((openB D a' n').pages : Int) := by omega
          have Hdk := Lib.hid hdk
          have Hbp := Lib.hid hbp
          have Hpg := Lib.hid hpg
          have Hk6 := Lib.hid hk6
          clear hdk hbp hpg hk6
          go_wp2_with fail
          refine (Hpg.out).mono ?_
          rintro e w7 ⟨rfl, rfl⟩
          go_wp2_with fail
          go_ret
          exact ⟨rfl, Fin.out _ Hk6.out⟩
        | false =>
          have hop := bopen_none a' n' o.k hok (by rw [hsz]; omega) hoff (by omega) (by omega) hfd
          unfold dp at *
          have O := Lib.hid o
          have Hop := Lib.hid hop
          have Hfd := Lib.hid hfd
          have Fin := Lib.hid fin
          have Hkw := Lib.hid hkw
          have HD := Lib.hid hD
          have Hkl := Lib.hid hkl
          have Hsz := Lib.hid hsz
          have Hok := Lib.hid hok
          clear o hop hfd fin hkw hD hkl hsz hok
          go_wp2_with fail
          refine (Hop.out).mono ?_
          rintro e w6 ⟨rfl, hk6⟩
          go_wp2_with fail
          go_ret
          exact ⟨rfl, Fin.out _ hk6⟩
      · have hop := bopen_bad a n o.k hok.kept hoff ha hb
        unfold dp at *
        have O := Lib.hid o
        have Hop := Lib.hid hop
        have Fin := Lib.hid fin
        have Hkw := Lib.hid hkw
        have HD := Lib.hid hD
        have Hkl := Lib.hid hkl
        have Hsz := Lib.hid hsz
        have Hok := Lib.hid hok
        have Hb := Lib.hid hb
        clear o hop fin hkw hD hkl hsz hok hb
        go_wp2_with fail
        refine (Hop.out).mono ?_
        rintro e w6 ⟨rfl, hk6⟩
        go_wp2_with fail
        go_ret
        exact ⟨rfl, Fin.out _ hk6⟩
theorem pagesBytes_walk (A : Option Addr) (c : Nat) (g : Option Nat) (L : List UInt8) (a n : Int) (w : World) (hr : recB.Rd w (.slice A L.length c) g L) (ha : a ≤ 9223372036854775807) :
    Calls Try.prog 12 #[.slice A L.length c, .int .i64 a, .int .i64 n] w (YesD w) := by
  by_cases hl : 4096 < L.length
  · exact pbytes_long A _ c a n w hl
  · exact pbytes_any A c g L a n w hr (by omega) ha
end Go.Proofs.Ytnddaildicmneaa
