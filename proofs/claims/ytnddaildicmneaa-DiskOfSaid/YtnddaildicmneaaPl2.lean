/-
  disk: does a disk tell what the document's does?
-/
import Derived.Test.YtnddaildicmneaaPl1
namespace Go.Proofs.Ytnddaildicmneaa
open Go.Proofs Go.RowKit Go.Sort Go.Maps

structure Agree (D : DiskV) (P : PlV) : Prop where
  size : P.size = D.size
  kept : P.kept = D.kept
  wait : P.wait = D.pend
  off : P.off = D.off
  writes : P.writes = D.writes
  nlen : P.now.length = D.kept.length
  now : ∀ i, i < D.kept.length → P.now[i]? = some (D.read i)
  arm1 : D.armed = true → P.arm = D.left ∧ P.keep = D.keep
  arm0 : D.armed = false → P.arm = 0
  dead : D.off = true → D.pend = []
theorem strOf_app (L M : List UInt8) : strOf (L ++ M) = strOf L ++ strOf M := by
  apply ByteArray.ext
  rw [ByteArray.data_append]
  simp [strOf]
theorem rdB_of2 {w : World} {v : Value} {g : Option Nat} {L : List UInt8} (h : recB.Rd w v g L) : Rd w v g (L.map bv) ∨ (L = [] ∧ ∃ A c, v = .slice A 0 c) := by
  obtain ⟨A, cap, rfl, h1, h2, hu, h3, h4⟩ := h
  by_cases h0 : 0 < L.length
  · obtain ⟨b, o, rfl, hg, hc⟩ := h3 h0
    refine .inl (.inr ⟨⟨b, o, none⟩, cap, by simp, hu, fun _ => ⟨hg, rfl⟩, by simpa using h1, h2, fun j u hj => ?_⟩)
    rw [List.getElem?_map] at hj
    cases hx : L[j]? with
    | none => rw [hx] at hj; cases hj
    | some x =>
      rw [hx] at hj
      have := hc j x hx 0 (by decide)
      rw [Nat.add_zero, show j * recB.n = j from Nat.mul_one j] at this
      rw [Addr.add_lit, this]
      exact hj
  · have : L = [] := List.eq_nil_of_length_eq_zero (by omega)
    subst this
    exact .inr ⟨rfl, A, cap, rfl⟩
theorem conv_rdB {w : World} {v : Value} {g : Option Nat} {L : List UInt8} (h : recB.Rd w v g L) (hp : 0 < L.length) : (convert 41 9 v).run Try.prog w = .ok (.string (strOf L)) w := by
  rcases rdB_of2 h with h | ⟨h0, -⟩
  · exact conv_str v g L w h
  · rw [h0] at hp; simp at hp
theorem strRow_at {w : World} {b n c : Nat} {l : List (List UInt8)} (hr : recStr.Row w (.slice (some ⟨b, 0, none⟩) n c) l) {i : Nat} {L : List UInt8} (hL : l[i]? = some L) : w.cell? ⟨b, i, none⟩ = some (.string (strOf L)) := by
  have := RecT.Row.at_ hr hL 0 (by decide)
  rw [show i * recStr.n = i from Nat.mul_one i, Nat.add_zero] at this
  simpa [recStr] using this
theorem strRow_blk {w : World} {A : Option Addr} {n c : Nat} {l : List (List UInt8)} (hr : recStr.Row w (.slice A n c) l) (hp : 0 < l.length) : ∃ b, A = some ⟨b, 0, none⟩ := by
  rcases hr.blk with ⟨hv0, h0⟩ | ⟨b, cap, rest, hv, -⟩
  · rw [h0] at hp; simp at hp
  · injection hv with h1 _ _
    exact ⟨b, h1⟩
section
variable {w0 w : World} {p d : Nat} {kv nv wv kp : Value} {gk : Option Nat} {P : PlV} {D : DiskV} {F : Nat → Prop}
set_option maxRecDepth 20000 in
set_option maxHeartbeats 16000000 in
theorem same_any (o : DOwn w0 w d F D) (ok : DOk D) (h : PAt w0 w p kv nv wv kp gk P) (ag : Agree D P) (hz : 0 < D.size) (hkl : 0 < D.kept.length) (hkb : D.kept.length ≤ 100000) :
    Calls Try.prog 34 #[.pointer (some ⟨d, 0, none⟩), .pointer (some ⟨p, 0, none⟩)] w (YesD w) := by
  obtain ⟨Ak, ck, hkv, -⟩ := h.kept.form
  obtain ⟨An, cn, hnv, -⟩ := h.now.form
  obtain ⟨Aw, cw, hwv, -⟩ := h.wait.form
  subst hkv hnv hwv
  obtain ⟨n, hn⟩ : ∃ n, n = D.kept.length := ⟨_, rfl⟩
  obtain ⟨m, hm⟩ : ∃ m, m = D.pend.length := ⟨_, rfl⟩
  have hnb : n ≤ 100000 := by omega
  have e1 : P.kept.length = n := by rw [ag.kept, hn]
  have e2 : P.now.length = n := by rw [ag.nlen, hn]
  have e3 : P.wait.length = m := by rw [ag.wait, hm]
  rw [e1, e2, e3] at h
  obtain ⟨bk, rfl⟩ := strRow_blk h.kept (by rw [e1, hn]; exact hkl)
  obtain ⟨bn, rfl⟩ := strRow_blk h.now (by rw [e2, hn]; exact hkl)
  have q0 := dk_off o.k
  have q1 := dk_pending o.k
  have q2 := dk_writes o.k
  rw [← hm] at q1
  unfold dp at q0 q1 q2
  obtain ⟨f, hf⟩ : ∃ f, f = D.off := ⟨_, rfl⟩
  obtain ⟨x, hx⟩ : ∃ x, x = D.writes := ⟨_, rfl⟩
  have c4 : ∀ w', w' = w.drew → w'.cell? ⟨p, 4, none⟩ = some (.bool f) := fun w' e => by rw [e, hf, ← ag.off]; simpa using h.cell 4
  have c3 : ∀ w', w' = w.drew → w'.cell? ⟨p, 3, none⟩ = some (.slice Aw m cw) := fun w' e => by rw [e]; simpa using h.cell 3
  have c7 : ∀ w', w' = w.drew → w'.cell? ⟨p, 7, none⟩ = some (.int .i64 x) := fun w' e => by rw [e, hx, ← ag.writes]; simpa using h.cell 7
  have q0d := dk_off (o.k.same (Keeps.refl nowhere w).drew)
  have q1d := dk_pending (o.k.same (Keeps.refl nowhere w).drew)
  have q2d := dk_writes (o.k.same (Keeps.refl nowhere w).drew)
  rw [← hm] at q1d
  rw [← hf] at q0d
  rw [← hx] at q2d
  unfold dp at q0d q1d q2d
  clear q0 q1 q2
  have O := Lib.hid o
  have H := Lib.hid h
  have Hn := Lib.hid hn
  have Hm := Lib.hid hm
  have E1 := Lib.hid e1
  have E2 := Lib.hid e2
  have E3 := Lib.hid e3
  have Q0d := Lib.hid q0d
  have Q1d := Lib.hid q1d
  have Q2d := Lib.hid q2d
  have Hf := Lib.hid hf
  have Hx := Lib.hid hx
  clear o h hn hm e1 e2 e3 q0d q1d q2d hf hx
  go_enter Try.func34, Try.ntmps34
  go_wp2_with fail
  refine wp_region_script [0, 2, 3, 4, 5, 6, 7, 8, 10, 11, 12, 13, 14, 15, 16, 17, 18, 20, 21, 22, 23, 24, 25] [5, 13, 23] [.ps [0, 2, 3, 4], .fs [5], .es [1] true, .ps [6, 7], .ps [8, 10, 11], .ps [12], .fs [13], .ps [14], .es [9] true, .ps [15, 16, 17], .ps [18, 20, 21], .ps [22], .fs [23], .es [19] true, .ps [24, 25]] (fun w' => w' = w.drew) rfl (by kernel_rfl) ?_
  refine wpS_ps rfl fun K hK => ?_
  simp only [List.map_cons, List.map_nil, Option.getD_some, List.getElem?_toArray, List.getElem?_cons_zero, List.getElem?_cons_succ]
  iterate 4 (first | (apply quietO_cons _ rfl; (intro w' _; go_simp; rfl)) | apply quietO_skip rfl)
  refine hK _ ?_
  clear hK K
  simp only [Act.put, List.setIfInBounds_toArray, List.set_cons_zero, List.set_cons_succ]
  refine wpS_fs rfl (rfl) fun K hK => ?_
  simp only [List.map_cons, List.map_nil, Option.getD_some, List.getElem?_toArray, List.getElem?_cons_zero, List.getElem?_cons_succ]
  iterate 1 (first | (apply quietO_cons _ rfl; (intro w' hs; have c_0 := c4 w' hs; go_simp; rfl)) | apply quietO_skip rfl)
  refine hK _ ?_
  clear hK K
  simp only [Act.put, List.setIfInBounds_toArray, List.set_cons_zero, List.set_cons_succ]
  refine wpS_es rfl fun K hK => ?_
  have HK := Lib.hid hK
  clear hK
  simp only [List.map_cons, List.map_nil, Option.getD_some, List.getElem?_toArray, List.getElem?_cons_zero, List.getElem?_cons_succ]
  go_wp2_with fail
  refine Q0d.out.mono ?_
  rintro e w1 ⟨rfl, rfl⟩
  go_wp2_with fail
  refine HK.out _ _ (fun _ => rfl) ?_
  clear HK K
  refine wpS_ps rfl fun K hK => ?_
  simp only [List.map_cons, List.map_nil, Option.getD_some, List.getElem?_toArray, List.getElem?_cons_zero, List.getElem?_cons_succ]
  iterate 2 (first | (apply quietO_cons _ rfl; (intro w' _; go_simp; rfl)) | apply quietO_skip rfl)
  refine hK _ ?_
  clear hK K
  simp only [Act.put, List.setIfInBounds_toArray, List.set_cons_zero, List.set_cons_succ]
  refine wpS_ps rfl fun K hK => ?_
  simp only [List.map_cons, List.map_nil, Option.getD_some, List.getElem?_toArray, List.getElem?_cons_zero, List.getElem?_cons_succ]
  iterate 3 (first | (apply quietO_cons _ rfl; (intro w' _; go_simp; rfl)) | apply quietO_skip rfl)
  refine hK _ ?_
  clear hK K
  simp only [Act.put, List.setIfInBounds_toArray, List.set_cons_zero, List.set_cons_succ]
  refine wpS_ps rfl fun K hK => ?_
  simp only [List.map_cons, List.map_nil, Option.getD_some, List.getElem?_toArray, List.getElem?_cons_zero, List.getElem?_cons_succ]
  iterate 1 (first | (apply quietO_cons _ rfl; (intro w' _; go_simp; rfl)) | apply quietO_skip rfl)
  refine hK _ ?_
  clear hK K
  simp only [Act.put, List.setIfInBounds_toArray, List.set_cons_zero, List.set_cons_succ]
  refine wpS_fs rfl (rfl) fun K hK => ?_
  simp only [List.map_cons, List.map_nil, Option.getD_some, List.getElem?_toArray, List.getElem?_cons_zero, List.getElem?_cons_succ]
  iterate 1 (first | (apply quietO_cons _ rfl; (intro w' hs; have c_0 := c3 w' hs; go_simp; rfl)) | apply quietO_skip rfl)
  refine hK _ ?_
  clear hK K
  simp only [Act.put, List.setIfInBounds_toArray, List.set_cons_zero, List.set_cons_succ]
  refine wpS_ps rfl fun K hK => ?_
  simp only [List.map_cons, List.map_nil, Option.getD_some, List.getElem?_toArray, List.getElem?_cons_zero, List.getElem?_cons_succ]
  iterate 1 (first | (apply quietO_cons _ rfl; (intro w' _; go_simp; rfl)) | apply quietO_skip rfl)
  refine hK _ ?_
  clear hK K
  simp only [Act.put, List.setIfInBounds_toArray, List.set_cons_zero, List.set_cons_succ]
  refine wpS_es rfl fun K hK => ?_
  have HK := Lib.hid hK
  clear hK
  simp only [List.map_cons, List.map_nil, Option.getD_some, List.getElem?_toArray, List.getElem?_cons_zero, List.getElem?_cons_succ]
  go_wp2_with fail
  refine Q1d.out.mono ?_
  rintro e w1 ⟨rfl, rfl⟩
  go_wp2_with fail
  refine HK.out _ _ (fun _ => rfl) ?_
  clear HK K
  refine wpS_ps rfl fun K hK => ?_
  simp only [List.map_cons, List.map_nil, Option.getD_some, List.getElem?_toArray, List.getElem?_cons_zero, List.getElem?_cons_succ]
  iterate 3 (first | (apply quietO_cons _ rfl; (intro w' _; go_simp; rfl)) | apply quietO_skip rfl)
  refine hK _ ?_
  clear hK K
  simp only [Act.put, List.setIfInBounds_toArray, List.set_cons_zero, List.set_cons_succ]
  refine wpS_ps rfl fun K hK => ?_
  simp only [List.map_cons, List.map_nil, Option.getD_some, List.getElem?_toArray, List.getElem?_cons_zero, List.getElem?_cons_succ]
  iterate 3 (first | (apply quietO_cons _ rfl; (intro w' _; go_simp; rfl)) | apply quietO_skip rfl)
  refine hK _ ?_
  clear hK K
  simp only [Act.put, List.setIfInBounds_toArray, List.set_cons_zero, List.set_cons_succ]
  refine wpS_ps rfl fun K hK => ?_
  simp only [List.map_cons, List.map_nil, Option.getD_some, List.getElem?_toArray, List.getElem?_cons_zero, List.getElem?_cons_succ]
  iterate 1 (first | (apply quietO_cons _ rfl; (intro w' _; go_simp; rfl)) | apply quietO_skip rfl)
  refine hK _ ?_
  clear hK K
  simp only [Act.put, List.setIfInBounds_toArray, List.set_cons_zero, List.set_cons_succ]
  refine wpS_fs rfl (rfl) fun K hK => ?_
  simp only [List.map_cons, List.map_nil, Option.getD_some, List.getElem?_toArray, List.getElem?_cons_zero, List.getElem?_cons_succ]
  iterate 1 (first | (apply quietO_cons _ rfl; (intro w' hs; have c_0 := c7 w' hs; go_simp; rfl)) | apply quietO_skip rfl)
  refine hK _ ?_
  clear hK K
  simp only [Act.put, List.setIfInBounds_toArray, List.set_cons_zero, List.set_cons_succ]
  refine wpS_es rfl fun K hK => ?_
  have HK := Lib.hid hK
  clear hK
  simp only [List.map_cons, List.map_nil, Option.getD_some, List.getElem?_toArray, List.getElem?_cons_zero, List.getElem?_cons_succ]
  go_wp2_with fail
  refine Q2d.out.mono ?_
  rintro e w1 ⟨rfl, rfl⟩
  go_wp2_with fail
  refine HK.out _ _ (fun _ => rfl) ?_
  clear HK K
  refine wpS_ps rfl fun K hK => ?_
  simp only [List.map_cons, List.map_nil, Option.getD_some, List.getElem?_toArray, List.getElem?_cons_zero, List.getElem?_cons_succ]
  iterate 2 (first | (apply quietO_cons _ rfl; (intro w' _; go_simp; rfl)) | apply quietO_skip rfl)
  refine hK _ ?_
  clear hK K
  simp only [Act.put, List.setIfInBounds_toArray, List.set_cons_zero, List.set_cons_succ]
  refine wpS_nil ?_
  clear c3 c4 c7 Q0d Q1d Q2d
  go_wp2_with fail
  have hkd := (Keeps.refl nowhere w).drew
  go_loopw [5, 6] (fun sv iv wr => ∃ i : Nat, sv = .string (strOf (D.kept.take i).flatten) ∧ iv = .int .i64 i ∧ i ≤ n ∧ Keeps nowhere w wr) (fun _ iv _ => n - (intOf iv).toNat)
  case atStart => exact ⟨0, rfl, rfl, Nat.zero_le _, hkd⟩
  case round =>
    obtain ⟨i, rfl, rfl, hi, hk⟩ := hrel
    have oo := O.out.same hk
    have hh := H.out.same hk
    by_cases hlt : i < n
    · have hltI : (i : Int) < n := by omega
      have hi0 : (0 : Int) ≤ (i : Int) := by omega
      have hi1 : IntKind.i64.wrap ((i : Int) + 1) = i + 1 := IntWalk.i64_in _ (by omega)
      have c2 := hh.cell 2
      simp only [List.getElem?_toArray, List.getElem?_cons_succ, List.getElem?_cons_zero] at c2
      have hc := own_read (i : Int) oo ok
      obtain ⟨L, hL⟩ : ∃ L, D.kept[i]? = some L := ⟨_, List.getElem?_eq_getElem (by rw [← Hn.out]; exact hlt)⟩
      have hst : (D.kept.take (i + 1)).flatten = (D.kept.take i).flatten ++ L := tot_take hL
      have hnw := ag.now i (by rw [← Hn.out]; exact hlt)
      have hszs : ¬ 9223372036854775807 < (strOf (List.take i D.kept).flatten).size + (strOf L).size := by
        have h1 : (strOf (List.take i D.kept).flatten).size = (D.kept.take i).flatten.length := by simp [strOf, ByteArray.size]
        have h2 : (strOf L).size = L.length := by simp [strOf, ByteArray.size]
        have h3 := tot_le D.kept (i + 1)
        unfold tot at h3
        rw [hst, List.length_append, oo.k.flat] at h3
        have := ok.all
        rw [h1, h2]
        omega
      unfold dp at hc
      by_cases ho : D.off = true
      · have hre : D.readE (i : Int) = 22 := by unfold DiskV.readE; rw [if_pos ho]
        have hfT : f = true := by rw [Hf.out]; exact ho
        rw [hre] at hc
        subst hfT
        clear hh
        have Oo := Lib.hid oo
        have Hc := Lib.hid hc
        have HL := Lib.hid hL
        have Hst := Lib.hid hst
        have Hnw := Lib.hid hnw
        have Hk := Lib.hid hk
        have Ho := Lib.hid ho
        clear oo hc hL hst hnw hk ho
        go_wp2_with fail
        refine Hc.out.mono ?_
        rintro e w2 ⟨A2, c2', g2, rfl, -, -, -, hk2⟩
        have hkr : Keeps nowhere w w2.drew := (Hk.out.more hk2).drew
        have d4 : ∀ w', w' = w2.drew → w'.cell? ⟨p, 4, none⟩ = some (.bool true) := fun w' e => by
          have := (H.out.same hkr).cell 4
          rw [ag.off, Ho.out] at this
          rw [e]
          simpa using this
        have d1 := (H.out.same hkr).cell 1
        simp only [List.getElem?_toArray, List.getElem?_cons_succ, List.getElem?_cons_zero] at d1
        have dk := strRow_at (H.out.same hkr).kept (by rw [ag.kept]; exact HL.out)
        generalize (D.readL (i : Int)).length = M2
        clear c2 Hc
        have Hkr := Lib.hid hkr
        clear hkr
        go_upto_region 8 with fail
        refine wp_region_script [0, 1, 2, 3, 4, 5, 6, 7, 8, 9, 10, 11, 12, 13, 14, 15, 16, 17, 18, 19, 20, 21, 22, 23, 24, 25, 26, 27, 28, 29, 30] [3, 12, 19, 23, 26] [.ps [0, 1, 2], .fs [3], .ps [4], .ps [5, 6], .ps [7, 8], .ps [9, 10, 11], .fs [12], .ps [13, 14], .ps [15, 16, 17], .ps [18], .fs [19], .ps [20, 21, 22], .fs [23], .ps [24, 25], .fs [26], .ps [27, 28], .ps [29, 30]] (fun w' => w' = w2.drew) rfl (by kernel_rfl) ?_
        refine wpS_ps rfl fun K hK => ?_
        simp only [List.map_cons, List.map_nil, Option.getD_some, List.getElem?_toArray, List.getElem?_cons_zero, List.getElem?_cons_succ]
        iterate 3 (first | (apply quietO_cons _ rfl; (intro w' _; go_simp; rfl)) | apply quietO_skip rfl)
        refine hK _ ?_
        clear hK K
        simp only [Act.put, List.setIfInBounds_toArray, List.set_cons_zero, List.set_cons_succ]
        refine wpS_fs rfl (rfl) fun K hK => ?_
        simp only [List.map_cons, List.map_nil, Option.getD_some, List.getElem?_toArray, List.getElem?_cons_zero, List.getElem?_cons_succ]
        iterate 1 (first | (apply quietO_cons _ rfl; (intro w' hs; have c_0 := d4 w' hs; go_simp; rfl)) | apply quietO_skip rfl)
        refine hK _ ?_
        clear hK K
        simp only [Act.put, List.setIfInBounds_toArray, List.set_cons_zero, List.set_cons_succ]
        refine wpS_ps rfl fun K hK => ?_
        simp only [List.map_cons, List.map_nil, Option.getD_some, List.getElem?_toArray, List.getElem?_cons_zero, List.getElem?_cons_succ]
        iterate 1 (first | (apply quietO_cons _ rfl; (intro w' _; go_simp; rfl)) | apply quietO_skip rfl)
        refine hK _ ?_
        clear hK K
        simp only [Act.put, List.setIfInBounds_toArray, List.set_cons_zero, List.set_cons_succ]
        refine wpS_ps rfl fun K hK => ?_
        simp only [List.map_cons, List.map_nil, Option.getD_some, List.getElem?_toArray, List.getElem?_cons_zero, List.getElem?_cons_succ]
        iterate 2 (first | (apply quietO_cons _ rfl; (intro w' _; go_simp; rfl)) | apply quietO_skip rfl)
        refine hK _ ?_
        clear hK K
        simp only [Act.put, List.setIfInBounds_toArray, List.set_cons_zero, List.set_cons_succ]
        refine wpS_ps rfl fun K hK => ?_
        simp only [List.map_cons, List.map_nil, Option.getD_some, List.getElem?_toArray, List.getElem?_cons_zero, List.getElem?_cons_succ]
        iterate 2 (first | (apply quietO_cons _ rfl; (intro w' _; go_simp; rfl)) | apply quietO_skip rfl)
        refine hK _ ?_
        clear hK K
        simp only [Act.put, List.setIfInBounds_toArray, List.set_cons_zero, List.set_cons_succ]
        refine wpS_ps rfl fun K hK => ?_
        simp only [List.map_cons, List.map_nil, Option.getD_some, List.getElem?_toArray, List.getElem?_cons_zero, List.getElem?_cons_succ]
        iterate 3 (first | (apply quietO_cons _ rfl; (intro w' _; go_simp; rfl)) | apply quietO_skip rfl)
        refine hK _ ?_
        clear hK K
        simp only [Act.put, List.setIfInBounds_toArray, List.set_cons_zero, List.set_cons_succ]
        refine wpS_fs rfl (rfl) fun K hK => ?_
        simp only [List.map_cons, List.map_nil, Option.getD_some, List.getElem?_toArray, List.getElem?_cons_zero, List.getElem?_cons_succ]
        iterate 1 (first | (apply quietO_cons _ rfl; (intro w' hs; have c_0 := d4 w' hs; go_simp; rfl)) | apply quietO_skip rfl)
        refine hK _ ?_
        clear hK K
        simp only [Act.put, List.setIfInBounds_toArray, List.set_cons_zero, List.set_cons_succ]
        refine wpS_ps rfl fun K hK => ?_
        simp only [List.map_cons, List.map_nil, Option.getD_some, List.getElem?_toArray, List.getElem?_cons_zero, List.getElem?_cons_succ]
        iterate 2 (first | (apply quietO_cons _ rfl; (intro w' _; go_simp; rfl)) | apply quietO_skip rfl)
        refine hK _ ?_
        clear hK K
        simp only [Act.put, List.setIfInBounds_toArray, List.set_cons_zero, List.set_cons_succ]
        refine wpS_ps rfl fun K hK => ?_
        simp only [List.map_cons, List.map_nil, Option.getD_some, List.getElem?_toArray, List.getElem?_cons_zero, List.getElem?_cons_succ]
        iterate 3 (first | (apply quietO_cons _ rfl; (intro w' _; go_simp; rfl)) | apply quietO_skip rfl)
        refine hK _ ?_
        clear hK K
        simp only [Act.put, List.setIfInBounds_toArray, List.set_cons_zero, List.set_cons_succ]
        refine wpS_ps rfl fun K hK => ?_
        simp only [List.map_cons, List.map_nil, Option.getD_some, List.getElem?_toArray, List.getElem?_cons_zero, List.getElem?_cons_succ]
        iterate 1 (first | (apply quietO_cons _ rfl; (intro w' _; go_simp; rfl)) | apply quietO_skip rfl)
        refine hK _ ?_
        clear hK K
        simp only [Act.put, List.setIfInBounds_toArray, List.set_cons_zero, List.set_cons_succ]
        refine wpS_fs rfl (rfl) fun K hK => ?_
        simp only [List.map_cons, List.map_nil, Option.getD_some, List.getElem?_toArray, List.getElem?_cons_zero, List.getElem?_cons_succ]
        iterate 1 (first | (apply quietO_cons _ rfl; (intro w' hs; go_simp; rfl)) | apply quietO_skip rfl)
        refine hK _ ?_
        clear hK K
        simp only [Act.put, List.setIfInBounds_toArray, List.set_cons_zero, List.set_cons_succ]
        refine wpS_ps rfl fun K hK => ?_
        simp only [List.map_cons, List.map_nil, Option.getD_some, List.getElem?_toArray, List.getElem?_cons_zero, List.getElem?_cons_succ]
        iterate 3 (first | (apply quietO_cons _ rfl; (intro w' _; go_simp; rfl)) | apply quietO_skip rfl)
        refine hK _ ?_
        clear hK K
        simp only [Act.put, List.setIfInBounds_toArray, List.set_cons_zero, List.set_cons_succ]
        refine wpS_fs rfl (rfl) fun K hK => ?_
        simp only [List.map_cons, List.map_nil, Option.getD_some, List.getElem?_toArray, List.getElem?_cons_zero, List.getElem?_cons_succ]
        iterate 1 (first | (apply quietO_cons _ rfl; (intro w' hs; go_simp; rfl)) | apply quietO_skip rfl)
        refine hK _ ?_
        clear hK K
        simp only [Act.put, List.setIfInBounds_toArray, List.set_cons_zero, List.set_cons_succ]
        refine wpS_ps rfl fun K hK => ?_
        simp only [List.map_cons, List.map_nil, Option.getD_some, List.getElem?_toArray, List.getElem?_cons_zero, List.getElem?_cons_succ]
        iterate 2 (first | (apply quietO_cons _ rfl; (intro w' _; go_simp; rfl)) | apply quietO_skip rfl)
        refine hK _ ?_
        clear hK K
        simp only [Act.put, List.setIfInBounds_toArray, List.set_cons_zero, List.set_cons_succ]
        refine wpS_fs rfl (rfl) fun K hK => ?_
        simp only [List.map_cons, List.map_nil, Option.getD_some, List.getElem?_toArray, List.getElem?_cons_zero, List.getElem?_cons_succ]
        iterate 1 (first | (apply quietO_cons _ rfl; (intro w' hs; go_simp; rfl)) | apply quietO_skip rfl)
        refine hK _ ?_
        clear hK K
        simp only [Act.put, List.setIfInBounds_toArray, List.set_cons_zero, List.set_cons_succ]
        refine wpS_ps rfl fun K hK => ?_
        simp only [List.map_cons, List.map_nil, Option.getD_some, List.getElem?_toArray, List.getElem?_cons_zero, List.getElem?_cons_succ]
        iterate 2 (first | (apply quietO_cons _ rfl; (intro w' _; go_simp; rfl)) | apply quietO_skip rfl)
        refine hK _ ?_
        clear hK K
        simp only [Act.put, List.setIfInBounds_toArray, List.set_cons_zero, List.set_cons_succ]
        refine wpS_ps rfl fun K hK => ?_
        simp only [List.map_cons, List.map_nil, Option.getD_some, List.getElem?_toArray, List.getElem?_cons_zero, List.getElem?_cons_succ]
        iterate 2 (first | (apply quietO_cons _ rfl; (intro w' _; go_simp; rfl)) | apply quietO_skip rfl)
        refine hK _ ?_
        clear hK K
        simp only [Act.put, List.setIfInBounds_toArray, List.set_cons_zero, List.set_cons_succ]
        refine wpS_nil ?_
        clear d4
        go_wp2_with fail
        rw [← strOf_app, ← Hst.out]
        go_roundw
        case rel => exact ⟨i + 1, rfl, by simp, by omega, Hkr.out⟩
        case measure => simp [intOf]; omega
      · have ho' : D.off = false := by simpa using ho
        have hre : D.readE (i : Int) = 0 := by unfold DiskV.readE; rw [if_neg ho, if_pos ⟨by omega, by rw [← Hn.out]; omega⟩]
        have hrl : D.readL (i : Int) = D.read i := by unfold DiskV.readL; rw [if_neg ho, if_pos ⟨by omega, by rw [← Hn.out]; omega⟩, Int.toNat_natCast]
        have hfF : f = false := by rw [Hf.out]; exact ho'
        have hrlen := oo.k.readLen ho' (s := i) (by rw [← Hn.out]; exact hlt)
        rw [hre] at hc
        rw [hrl] at hc hrlen
        obtain ⟨R, hR⟩ : ∃ R, R = D.read i := ⟨_, rfl⟩
        rw [← hR] at hc hrlen hnw
        have hRp : 0 < R.length := by omega
        subst hfF
        clear hh
        have Oo := Lib.hid oo
        have Hc := Lib.hid hc
        have HL := Lib.hid hL
        have Hst := Lib.hid hst
        have Hnw := Lib.hid hnw
        have Hk := Lib.hid hk
        have Ho := Lib.hid ho
        have Ho' := Lib.hid ho'
        have HR := Lib.hid hR
        have Hrlen := Lib.hid hrlen
        have HRp := Lib.hid hRp
        have Hrl := Lib.hid hrl
        have Hre := Lib.hid hre
        clear oo hc hL hst hnw hk ho ho' hR hrlen hRp hrl hre
        go_wp2_with fail
        refine Hc.out.mono ?_
        rintro e w2 ⟨A2, c2', g2, rfl, hr2, -, -, hk2⟩
        have hkr : Keeps nowhere w w2.drew := (Hk.out.more hk2).drew
        have d4 : ∀ w', w' = w2.drew → w'.cell? ⟨p, 4, none⟩ = some (.bool false) := fun w' e => by
          have := (H.out.same hkr).cell 4
          rw [ag.off, Ho'.out] at this
          rw [e]
          simpa using this
        have d2 : ∀ w', w' = w2.drew → w'.cell? ⟨p, 2, none⟩ = some (.slice (some ⟨bn, 0, none⟩) n cn) := fun w' e => by
          rw [e]
          simpa using (H.out.same hkr).cell 2
        have dn : ∀ w', w' = w2.drew → w'.cell? ⟨bn, i, none⟩ = some (.string (strOf R)) := fun w' e => by
          rw [e]
          exact strRow_at (H.out.same hkr).now Hnw.out
        have dc : ∀ w', w' = w2.drew → (convert 41 9 (.slice A2 R.length c2')).run Try.prog w' = .ok (.string (strOf R)) w' := fun w' e => by
          rw [e]
          exact conv_rdB (hr2.same (Keeps.refl nowhere w2).drew) HRp.out
        have d1 := (H.out.same hkr).cell 1
        simp only [List.getElem?_toArray, List.getElem?_cons_succ, List.getElem?_cons_zero] at d1
        have dk := strRow_at (H.out.same hkr).kept (by rw [ag.kept]; exact HL.out)
        generalize R.length = M2 at dc ⊢
        clear c2 Hc
        have Hkr := Lib.hid hkr
        have Hr2 := Lib.hid hr2
        clear hkr hr2
        go_upto_region 8 with fail
        refine wp_region_script [0, 1, 2, 3, 4, 5, 6, 7, 8, 9, 10, 11, 12, 13, 14, 15, 16, 17, 18, 19, 20, 21, 22, 23, 24, 25, 26, 27, 28, 29, 30] [3, 12, 19, 23, 26] [.ps [0, 1, 2], .fs [3], .ps [4], .ps [5, 6], .ps [7, 8], .ps [9, 10, 11], .fs [12], .ps [13, 14], .ps [15, 16, 17], .ps [18], .fs [19], .ps [20, 21, 22], .fs [23], .ps [24, 25], .fs [26], .ps [27, 28], .ps [29, 30]] (fun w' => w' = w2.drew) rfl (by kernel_rfl) ?_
        refine wpS_ps rfl fun K hK => ?_
        simp only [List.map_cons, List.map_nil, Option.getD_some, List.getElem?_toArray, List.getElem?_cons_zero, List.getElem?_cons_succ]
        iterate 3 (first | (apply quietO_cons _ rfl; (intro w' _; go_simp; rfl)) | apply quietO_skip rfl)
        refine hK _ ?_
        clear hK K
        simp only [Act.put, List.setIfInBounds_toArray, List.set_cons_zero, List.set_cons_succ]
        refine wpS_fs rfl (rfl) fun K hK => ?_
        simp only [List.map_cons, List.map_nil, Option.getD_some, List.getElem?_toArray, List.getElem?_cons_zero, List.getElem?_cons_succ]
        iterate 1 (first | (apply quietO_cons _ rfl; (intro w' hs; have c_0 := d4 w' hs; go_simp; rfl)) | apply quietO_skip rfl)
        refine hK _ ?_
        clear hK K
        simp only [Act.put, List.setIfInBounds_toArray, List.set_cons_zero, List.set_cons_succ]
        refine wpS_ps rfl fun K hK => ?_
        simp only [List.map_cons, List.map_nil, Option.getD_some, List.getElem?_toArray, List.getElem?_cons_zero, List.getElem?_cons_succ]
        iterate 1 (first | (apply quietO_cons _ rfl; (intro w' _; go_simp; rfl)) | apply quietO_skip rfl)
        refine hK _ ?_
        clear hK K
        simp only [Act.put, List.setIfInBounds_toArray, List.set_cons_zero, List.set_cons_succ]
        refine wpS_ps rfl fun K hK => ?_
        simp only [List.map_cons, List.map_nil, Option.getD_some, List.getElem?_toArray, List.getElem?_cons_zero, List.getElem?_cons_succ]
        iterate 2 (first | (apply quietO_cons _ rfl; (intro w' _; go_simp; rfl)) | apply quietO_skip rfl)
        refine hK _ ?_
        clear hK K
        simp only [Act.put, List.setIfInBounds_toArray, List.set_cons_zero, List.set_cons_succ]
        refine wpS_ps rfl fun K hK => ?_
        simp only [List.map_cons, List.map_nil, Option.getD_some, List.getElem?_toArray, List.getElem?_cons_zero, List.getElem?_cons_succ]
        iterate 2 (first | (apply quietO_cons _ rfl; (intro w' _; go_simp; rfl)) | apply quietO_skip rfl)
        refine hK _ ?_
        clear hK K
        simp only [Act.put, List.setIfInBounds_toArray, List.set_cons_zero, List.set_cons_succ]
        refine wpS_ps rfl fun K hK => ?_
        simp only [List.map_cons, List.map_nil, Option.getD_some, List.getElem?_toArray, List.getElem?_cons_zero, List.getElem?_cons_succ]
        iterate 3 (first | (apply quietO_cons _ rfl; (intro w' _; go_simp; rfl)) | apply quietO_skip rfl)
        refine hK _ ?_
        clear hK K
        simp only [Act.put, List.setIfInBounds_toArray, List.set_cons_zero, List.set_cons_succ]
        refine wpS_fs rfl (rfl) fun K hK => ?_
        simp only [List.map_cons, List.map_nil, Option.getD_some, List.getElem?_toArray, List.getElem?_cons_zero, List.getElem?_cons_succ]
        iterate 1 (first | (apply quietO_cons _ rfl; (intro w' hs; have c_0 := d4 w' hs; go_simp; rfl)) | apply quietO_skip rfl)
        refine hK _ ?_
        clear hK K
        simp only [Act.put, List.setIfInBounds_toArray, List.set_cons_zero, List.set_cons_succ]
        refine wpS_ps rfl fun K hK => ?_
        simp only [List.map_cons, List.map_nil, Option.getD_some, List.getElem?_toArray, List.getElem?_cons_zero, List.getElem?_cons_succ]
        iterate 2 (first | (apply quietO_cons _ rfl; (intro w' _; go_simp; rfl)) | apply quietO_skip rfl)
        refine hK _ ?_
        clear hK K
        simp only [Act.put, List.setIfInBounds_toArray, List.set_cons_zero, List.set_cons_succ]
        refine wpS_ps rfl fun K hK => ?_
        simp only [List.map_cons, List.map_nil, Option.getD_some, List.getElem?_toArray, List.getElem?_cons_zero, List.getElem?_cons_succ]
        iterate 3 (first | (apply quietO_cons _ rfl; (intro w' _; go_simp; rfl)) | apply quietO_skip rfl)
        refine hK _ ?_
        clear hK K
        simp only [Act.put, List.setIfInBounds_toArray, List.set_cons_zero, List.set_cons_succ]
        refine wpS_ps rfl fun K hK => ?_
        simp only [List.map_cons, List.map_nil, Option.getD_some, List.getElem?_toArray, List.getElem?_cons_zero, List.getElem?_cons_succ]
        iterate 1 (first | (apply quietO_cons _ rfl; (intro w' _; go_simp; rfl)) | apply quietO_skip rfl)
        refine hK _ ?_
        clear hK K
        simp only [Act.put, List.setIfInBounds_toArray, List.set_cons_zero, List.set_cons_succ]
        refine wpS_fs rfl (rfl) fun K hK => ?_
        simp only [List.map_cons, List.map_nil, Option.getD_some, List.getElem?_toArray, List.getElem?_cons_zero, List.getElem?_cons_succ]
        iterate 1 (first | (apply quietO_cons _ rfl; (intro w' hs; have c_0 := dc w' hs; go_simp; rfl)) | apply quietO_skip rfl)
        refine hK _ ?_
        clear hK K
        simp only [Act.put, List.setIfInBounds_toArray, List.set_cons_zero, List.set_cons_succ]
        refine wpS_ps rfl fun K hK => ?_
        simp only [List.map_cons, List.map_nil, Option.getD_some, List.getElem?_toArray, List.getElem?_cons_zero, List.getElem?_cons_succ]
        iterate 3 (first | (apply quietO_cons _ rfl; (intro w' _; go_simp; rfl)) | apply quietO_skip rfl)
        refine hK _ ?_
        clear hK K
        simp only [Act.put, List.setIfInBounds_toArray, List.set_cons_zero, List.set_cons_succ]
        refine wpS_fs rfl (rfl) fun K hK => ?_
        simp only [List.map_cons, List.map_nil, Option.getD_some, List.getElem?_toArray, List.getElem?_cons_zero, List.getElem?_cons_succ]
        iterate 1 (first | (apply quietO_cons _ rfl; (intro w' hs; have c_0 := d2 w' hs; go_simp; rfl)) | apply quietO_skip rfl)
        refine hK _ ?_
        clear hK K
        simp only [Act.put, List.setIfInBounds_toArray, List.set_cons_zero, List.set_cons_succ]
        refine wpS_ps rfl fun K hK => ?_
        simp only [List.map_cons, List.map_nil, Option.getD_some, List.getElem?_toArray, List.getElem?_cons_zero, List.getElem?_cons_succ]
        iterate 2 (first | (apply quietO_cons _ rfl; (intro w' _; go_simp; rfl)) | apply quietO_skip rfl)
        refine hK _ ?_
        clear hK K
        simp only [Act.put, List.setIfInBounds_toArray, List.set_cons_zero, List.set_cons_succ]
        refine wpS_fs rfl (rfl) fun K hK => ?_
        simp only [List.map_cons, List.map_nil, Option.getD_some, List.getElem?_toArray, List.getElem?_cons_zero, List.getElem?_cons_succ]
        iterate 1 (first | (apply quietO_cons _ rfl; (intro w' hs; have c_0 := dn w' hs; go_simp; rfl)) | apply quietO_skip rfl)
        refine hK _ ?_
        clear hK K
        simp only [Act.put, List.setIfInBounds_toArray, List.set_cons_zero, List.set_cons_succ]
        refine wpS_ps rfl fun K hK => ?_
        simp only [List.map_cons, List.map_nil, Option.getD_some, List.getElem?_toArray, List.getElem?_cons_zero, List.getElem?_cons_succ]
        iterate 2 (first | (apply quietO_cons _ rfl; (intro w' _; go_simp; rfl)) | apply quietO_skip rfl)
        refine hK _ ?_
        clear hK K
        simp only [Act.put, List.setIfInBounds_toArray, List.set_cons_zero, List.set_cons_succ]
        refine wpS_ps rfl fun K hK => ?_
        simp only [List.map_cons, List.map_nil, Option.getD_some, List.getElem?_toArray, List.getElem?_cons_zero, List.getElem?_cons_succ]
        iterate 2 (first | (apply quietO_cons _ rfl; (intro w' _; go_simp; rfl)) | apply quietO_skip rfl)
        refine hK _ ?_
        clear hK K
        simp only [Act.put, List.setIfInBounds_toArray, List.set_cons_zero, List.set_cons_succ]
        refine wpS_nil ?_
        clear d4 dc d2 dn
        go_wp2_with fail
        rw [← strOf_app, ← Hst.out]
        go_roundw
        case rel => exact ⟨i + 1, rfl, by simp, by omega, Hkr.out⟩
        case measure => simp [intOf]; omega
    · obtain rfl : i = n := by omega
      have hltI : ¬ (i : Int) < i := by omega
      have c2 := hh.cell 2
      simp only [List.getElem?_toArray, List.getElem?_cons_succ, List.getElem?_cons_zero] at c2
      have hall : D.kept.take i = D.kept := List.take_of_length_le (by rw [Hn.out]; exact Nat.le_refl _)
      have hc := own_read (i : Int) oo ok
      have hflat : 0 < D.kept.flatten.length := by rw [oo.k.flat]; exact Nat.mul_pos hkl hz
      unfold dp at hc
      rw [hall]
      clear hh
      cases f with
      | true =>
        have hre : D.readE (i : Int) = 22 := by unfold DiskV.readE; rw [if_pos Hf.out.symm]
        rw [hre] at hc
        have Oo := Lib.hid oo
        have Hc := Lib.hid hc
        have Hk := Lib.hid hk
        have Hall := Lib.hid hall
        have Hre := Lib.hid hre
        have Hflat := Lib.hid hflat
        clear oo hc hk hall hre hflat
        go_wp2_with fail
        refine Hc.out.mono ?_
        rintro e w2 ⟨A2, c2', g2, rfl, -, -, o2, hk2⟩
        generalize (D.readL (i : Int)).length = M2
        have hb := own_bytes o2 ok hkl
        unfold dp at hb
        clear c2 Hc
        have Hb := Lib.hid hb
        have Hk2 := Lib.hid hk2
        clear hb hk2
        go_wp2_with fail
        refine Hb.out.mono ?_
        rintro e w3 ⟨A3, c3, g3, rfl, hr3, -, o3, hk3⟩
        have dc := conv_rdB hr3 Hflat.out
        have hkr : Keeps nowhere w w3 := (Hk.out.more Hk2.out).more hk3
        have d4 := (H.out.same hkr).cell 4
        rw [ag.off, ← Hf.out] at d4
        simp only [List.getElem?_toArray, List.getElem?_cons_succ, List.getElem?_cons_zero] at d4
        generalize D.kept.flatten.length = M3 at dc ⊢
        clear hr3 Hb
        have Hkr := Lib.hid hkr
        have O3 := Lib.hid o3
        clear hkr o3
        go_wp2_with fail
        go_ret
        exact ⟨rfl, Hkr.out⟩
      | false =>
        have hre : D.readE (i : Int) = 1 := by
          unfold DiskV.readE
          rw [if_neg (by rw [← Hf.out]; simp), if_neg (by rw [← Hn.out]; omega)]
        rw [hre] at hc
        have Oo := Lib.hid oo
        have Hc := Lib.hid hc
        have Hk := Lib.hid hk
        have Hall := Lib.hid hall
        have Hre := Lib.hid hre
        have Hflat := Lib.hid hflat
        clear oo hc hk hall hre hflat
        go_wp2_with fail
        refine Hc.out.mono ?_
        rintro e w2 ⟨A2, c2', g2, rfl, -, -, o2, hk2⟩
        generalize (D.readL (i : Int)).length = M2
        have hb := own_bytes o2 ok hkl
        unfold dp at hb
        clear c2 Hc
        have Hb := Lib.hid hb
        have Hk2 := Lib.hid hk2
        clear hb hk2
        go_wp2_with fail
        refine Hb.out.mono ?_
        rintro e w3 ⟨A3, c3, g3, rfl, hr3, -, o3, hk3⟩
        have dc := conv_rdB hr3 Hflat.out
        have hkr : Keeps nowhere w w3 := (Hk.out.more Hk2.out).more hk3
        have d4 := (H.out.same hkr).cell 4
        rw [ag.off, ← Hf.out] at d4
        simp only [List.getElem?_toArray, List.getElem?_cons_succ, List.getElem?_cons_zero] at d4
        generalize D.kept.flatten.length = M3 at dc ⊢
        clear hr3 Hb
        have Hkr := Lib.hid hkr
        have O3 := Lib.hid o3
        clear hkr o3
        go_wp2_with fail
        go_ret
        exact ⟨rfl, Hkr.out⟩
end
end Go.Proofs.Ytnddaildicmneaa
