/-
  disk: settle, walked.
-/
import Derived.Test.YtnddaildicmneaaDk6
import Derived.BigQuiet
import Derived.Carry
namespace Go.Proofs.Ytnddaildicmneaa
open Go.Proofs Go.RowKit Go.Sort Go.Maps

/-- what the method takes asks of a disk: a function of a number, that only reads -/
def KeepFn (g : Nat) (lb : Array Value) (kf : Nat → Bool) (S : Nat → Prop) (w : World) : Prop :=
  ∀ (W : World) (i : Nat), i < 1000000 → Keeps S w W → Calls Try.prog g (#[.int .i64 (i : Nat)] ++ lb) W fun e w' => e = .returned (.bool (kf i)) ∧ Keeps nowhere W w'

theorem upto_keep {D : DiskV} {kf : Nat → Bool} {i x : Nat} {L : List UInt8} (hp : D.pend[i]? = some (x, L)) (hk : kf i = true) : D.upto kf (i + 1) = ⟨D.size, (settleN kf D.pend D.kept i).set x L, D.pend, D.off, D.armed, D.left, D.keep, D.writes⟩ := by
  simp [DiskV.upto, settleN, hp, hk]
theorem upto_lose {D : DiskV} {kf : Nat → Bool} {i x : Nat} {L : List UInt8} (hp : D.pend[i]? = some (x, L)) (hk : kf i = false) : D.upto kf (i + 1) = D.upto kf i := by
  simp [DiskV.upto, settleN, hp, hk]
theorem hf_at {g : Nat} {lb : Array Value} {kf : Nat → Bool} {S : Nat → Prop} {w W : World} (h : KeepFn g lb kf S w) {i : Nat} (hi : i < 1000000) (hk : Keeps S w W) : Calls Try.prog g (#[.int .i64 (i : Nat)] ++ lb) W fun e w' => e = .returned (.bool (kf i)) ∧ Keeps nowhere W w' := h W i hi hk
section
variable {w : World} {d b : Nat} {kv kp : Value} {ks : List SlV} {vs : List Value} {D : DiskV}
theorem pend_sl (h : DAt w d b kv kp ks vs D) {i : Nat} {p : Nat × List UInt8} (hp : D.pend[i]? = some p) : ∃ s : SlV, vs[i]? = some s.v := by
  have hi := (List.getElem?_eq_some_iff.1 hp).1
  obtain ⟨v, hv⟩ : ∃ v, vs[i]? = some v := ⟨_, List.getElem?_eq_getElem (by rw [h.vlen]; exact hi)⟩
  obtain ⟨A, c, rfl, -⟩ := (h.pb i p v hp hv).1.form
  exact ⟨(A, p.2.length, c), hv⟩
set_option maxRecDepth 20000 in
set_option maxHeartbeats 8000000 in
theorem dsettle_any (g : Nat) (lb : Array Value) (eg : ∀ args w, (callFunc g args).run Try.prog w = .ok (.enter g args) w) (kf : Nat → Bool) (h : DAt w d b kv kp ks vs D) (hf : KeepFn g lb kf (DS d b kv) w) (hn : D.pend.length ≤ 90000) :
    Calls Try.prog 56 #[.pointer (some ⟨d, 0, none⟩), .func (.func g) #[] lb] w fun e w' => e = .returned (.tuple #[]) ∧ ∃ b', w.heap.size ≤ b' ∧ (∃ ks', DAt w' d b' kv kp ks' [] (D.settle kf)) ∧ Keeps (DS d b kv) w w' := by
  obtain ⟨A, c, hkv, hKc, hcm, -⟩ := h.kept.form
  unfold maxLen at hcm
  obtain ⟨n, hnn⟩ : ∃ n, n = D.pend.length := ⟨_, rfl⟩
  have hrow := prow_any w d b n (secF D.pend) (ents D.pend vs) (by simpa using h.cell 2) h.map (by rw [hnn]; exact ents_fst _ _) (by omega)
  obtain ⟨K, hK⟩ : ∃ K, K = ks.length := ⟨_, rfl⟩
  rw [← hK] at hkv hKc
  rw [← hnn] at hn
  subst hkv
  have H := Lib.hid h
  have Hf := Lib.hid hf
  have Hnn := Lib.hid hnn
  have Hrow := Lib.hid hrow
  have HK := Lib.hid hK
  clear h hf hnn hrow hK
  go_enter Try.func56, Try.ntmps56
  go_wp2_with fail
  refine Hrow.out.mono ?_
  rintro e w1 ⟨v, rfl, hpr, hab, hk1⟩
  obtain ⟨A1, c1, rfl, -⟩ := hpr.form
  rw [List.length_map, List.length_range] at hpr hab ⊢
  have h1 := H.out.same hk1
  have Hpr := Lib.hid hpr
  have Hab := Lib.hid hab
  have Hk1 := Lib.hid hk1
  have H1 := Lib.hid h1
  clear hpr hab hk1 h1
  go_wp2_with fail
  go_loopw [9] (fun iv wr => ∃ (i : Nat) (ks' : List SlV), iv = .int .i64 i ∧ i ≤ n ∧ DAt wr d b (.slice A K c) kp ks' vs (D.upto kf i) ∧ Keeps (DS d b (.slice A K c)) w1 wr) (fun iv _ => n - (intOf iv).toNat)
  case atStart => exact ⟨0, ks, rfl, Nat.zero_le _, H1.out, Keeps.refl _ _⟩
  case round =>
    obtain ⟨i, ks', rfl, hi, hd, hkx⟩ := hrel
    have hpr2 := Hpr.out.keep hkx (fun b' e1 e2 => by
      have l1 := Hab.out b' e1
      have l2 := H.out.box.lt
      have l3 := H.out.map.lt
      rcases e2 with e2 | e2 | e2
      · omega
      · omega
      · have := H.out.kept.lt b' e2; omega)
    by_cases hlt : i < n
    · have hltI : (i : Int) < n := by omega
      have hi0 : (0 : Int) ≤ (i : Int) := by omega
      have hi1 : IntKind.i64.wrap ((i : Int) + 1) = i + 1 := IntWalk.i64_in _ (by omega)
      obtain ⟨⟨x, L⟩, hp⟩ : ∃ p, D.pend[i]? = some p := ⟨_, List.getElem?_eq_getElem (by rw [← Hnn.out]; exact hlt)⟩
      obtain ⟨s, hs⟩ := pend_sl (D := D.upto kf i) hd hp
      have hxK : x < ks'.length := by rw [hd.klen]; exact (hd.pb i _ _ hp hs).2.2
      have hKK : ks'.length = K := by rw [hd.klen, HK.out, H.out.klen]; exact settleN_len _ _ _ _
      have hpl : ((List.range n).map (plc (secF D.pend)))[i]? = some ((i : Int), (x : Int)) := by
        rw [List.getElem?_map, List.getElem?_range hlt]
        simp [plc, secF, hp]
      obtain ⟨A', cp, hv', -, -, hu, h3, -⟩ := hpr2.rd
      injection hv' with e1 e2 e3
      clear e2 e3
      subst e1
      obtain ⟨bp, op, rfl, hgp, hcp⟩ := h3 (by rw [List.length_map, List.length_range]; omega)
      have hc := hcp i _ hpl
      have d0 := hc 0 (by decide)
      have d1 := hc 1 (by decide)
      rw [Nat.add_zero] at d0
      rw [show i * recP.n = i * 2 from rfl] at d0 d1
      simp only [recP, List.getElem?_cons_zero, List.getElem?_cons_succ] at d0 d1
      obtain ⟨W, hW⟩ : ∃ W, W = wr.alloc (.cells #[.int .i64 (i : Int), .int .i64 (x : Int)] 104) := ⟨_, rfl⟩
      obtain ⟨q, hq⟩ : ∃ q, q = wr.heap.size := ⟨_, rfl⟩
      have hkW : Keeps nowhere wr W := by rw [hW]; exact (Keeps.refl nowhere wr).alloc _
      have hbx : Blk W q 104 #[.int .i64 (i : Int), .int .i64 (x : Int)] := by rw [hW, hq]; exact Blk.new _ _ _
      have hkf := hf_at Hf.out (by omega : i < 1000000) ((Hk1.out.mono (T := DS d b (.slice A K c)) (fun _ _ h => h.elim)).trans (hkx.trans hkW (fun _ _ h => h.elim)) (fun _ _ h => h))
      have hdW := hd.same hkW
      have hkxW := hkx.trans hkW (fun _ _ h => h.elim)
      clear hcp hc h3 hu hpl hkW hgp hpr2
      have Hd := Lib.hid hd
      have Hkx := Lib.hid hkx
      have Hp := Lib.hid hp
      have Hs := Lib.hid hs
      have HW := Lib.hid hW
      have Hq := Lib.hid hq
      have Hbx := Lib.hid hbx
      have Hkf := Lib.hid hkf
      have HdW := Lib.hid hdW
      have HkxW := Lib.hid hkxW
      clear hd hkx hp hs hW hq hbx hkf hdW hkxW
      go_upto_region 3 with fail
      rw [← HW.out]
      simp only [← Hq.out]
      clear d0 d1 HW
      go_wp2_with fail
      refine Hkf.out.mono ?_
      rintro e w2 ⟨rfl, hk2⟩
      have hd2 := HdW.out.same hk2
      have hbx2 := Hbx.out.keep hk2 (fun h => h)
      have hkx2 := HkxW.out.trans hk2 (fun _ _ h => h.elim)
      cases hkfi : kf i with
      | false =>
        have hup := upto_lose (kf := kf) Hp.out hkfi
        rw [← hup] at hd2
        have Hd2 := Lib.hid hd2
        have Hbx2 := Lib.hid hbx2
        have Hkx2 := Lib.hid hkx2
        have Hk2 := Lib.hid hk2
        have Hup := Lib.hid hup
        have Hkfi := Lib.hid hkfi
        clear hd2 hbx2 hkx2 hk2 hup hkfi
        go_wp2_with fail
        go_roundw
        case rel => exact ⟨i + 1, ks', by simp, by omega, Hd2.out, Hkx2.out⟩
        case measure => simp [intOf]; omega
      | true =>
        have hup := upto_keep (kf := kf) Hp.out hkfi
        have hkd := (Keeps.refl nowhere w2).drew
        have hd3 := hd2.same hkd
        obtain ⟨bk, hbk, ⟨u, cu⟩, fu, hd4, hk4⟩ := hd3.store rfl Hp.out Hs.out
        subst hbk
        rw [show (D.upto kf i).size = D.size from rfl, show (D.upto kf i).kept = settleN kf D.pend D.kept i from rfl, show (D.upto kf i).pend = D.pend from rfl, show (D.upto kf i).off = D.off from rfl, show (D.upto kf i).armed = D.armed from rfl, show (D.upto kf i).left = D.left from rfl, show (D.upto kf i).keep = D.keep from rfl, show (D.upto kf i).writes = D.writes from rfl, ← hup] at hd4
        have hx0 : (0 : Int) ≤ (x : Int) := by omega
        have hxI : (x : Int) < K := by omega
        have hq1 : ∀ w', Keeps nowhere w2.drew w' → w'.cell? ⟨d, 1, none⟩ = some (.slice (some ⟨bk, 0, none⟩) K c) := fun w' hh => by simpa using (hd3.same hh).cell 1
        have hq2 : ∀ w', Keeps nowhere w2.drew w' → w'.cell? ⟨d, 2, none⟩ = some (.map (some b)) := fun w' hh => by simpa using (hd3.same hh).cell 2
        have hb0 : ∀ w', Keeps nowhere w2.drew w' → w'.cell? ⟨q, 0, none⟩ = some (.int .i64 (i : Int)) := fun w' hh => by simpa using (Blk.keep hbx2 (hkd.more hh) (fun h => h)).cell 0
        have hb1 : ∀ w', Keeps nowhere w2.drew w' → w'.cell? ⟨q, 1, none⟩ = some (.int .i64 (x : Int)) := fun w' hh => by simpa using (Blk.keep hbx2 (hkd.more hh) (fun h => h)).cell 1
        have hlk : ∀ w', Keeps nowhere w2.drew w' → (Instr.lookup 94 (.map (some b)) (.agg #[.int .i64 (i : Int), .int .i64 (x : Int)]) false).run Try.prog w' = .ok (.slice s.1 s.2.1 s.2.2) w' := fun w' hh => by
          have := (hd3.same hh).map.look (K := keyP) (t := 94) (e := 41) Try.underlying94 (z := .slice none 0 0) (by kernel_rfl) (x := ((i : Int), (x : Int))) ⟨wfI_nat i (by omega), wfI_nat x (by omega)⟩
          rw [(hd3.same hh).ent Hp.out Hs.out] at this
          exact this
        have hkx4 := (hkx2.trans hkd (fun _ _ h => h.elim)).trans hk4 (fun _ _ h => h)
        obtain ⟨w4, hw4⟩ : ∃ w4, w4 = w2.drew.setCell ⟨bk, x, none⟩ s.v := ⟨_, rfl⟩
        rw [← hw4] at hd4 hkx4
        replace hw4 : w4 = (w2.setCell ⟨bk, x, none⟩ (.slice s.1 s.2.1 s.2.2)).drew := by rw [hw4]; rfl
        clear hd2 hbx2 hkx2 hk2 hd3 hk4 hkd hup
        have Hd4 := Lib.hid hd4
        have Hkx4 := Lib.hid hkx4
        have Hw4 := Lib.hid hw4
        have Hkfi := Lib.hid hkfi
        clear hd4 hkx4 hw4 hkfi
        go_wp2_with fail
        refine wp_region_script [0, 1, 2, 3, 4, 5, 6, 7, 8, 9, 10, 11, 12] [3, 5, 9, 10, 11] [.ps [0, 1, 2], .fs [3], .ps [4], .fs [5], .ps [6, 7, 8], .fs [9], .fs [10], .fs [11], .ps [12], .es [13] false] (Keeps nowhere w2.drew) rfl (by kernel_rfl) ?_
        refine wpS_ps rfl fun K hK => ?_
        simp only [List.map_cons, List.map_nil, Option.getD_some, List.getElem?_toArray, List.getElem?_cons_zero, List.getElem?_cons_succ]
        iterate 3 (first | (apply quietO_cons _ rfl; (intro w' _; go_simp; rfl)) | apply quietO_skip rfl)
        refine hK _ ?_
        clear hK K
        simp only [Act.put, List.setIfInBounds_toArray, List.set_cons_zero, List.set_cons_succ]
        refine wpS_fs rfl (Keeps.refl _ _) fun K hK => ?_
        simp only [List.map_cons, List.map_nil, Option.getD_some, List.getElem?_toArray, List.getElem?_cons_zero, List.getElem?_cons_succ]
        iterate 1 (first | (apply quietO_cons _ rfl; (intro w' hs; have c_0 := hq1 w' hs; go_simp; rfl)) | apply quietO_skip rfl)
        refine hK _ ?_
        clear hK K
        simp only [Act.put, List.setIfInBounds_toArray, List.set_cons_zero, List.set_cons_succ]
        refine wpS_ps rfl fun K hK => ?_
        simp only [List.map_cons, List.map_nil, Option.getD_some, List.getElem?_toArray, List.getElem?_cons_zero, List.getElem?_cons_succ]
        iterate 1 (first | (apply quietO_cons _ rfl; (intro w' _; go_simp; rfl)) | apply quietO_skip rfl)
        refine hK _ ?_
        clear hK K
        simp only [Act.put, List.setIfInBounds_toArray, List.set_cons_zero, List.set_cons_succ]
        refine wpS_fs rfl (Keeps.refl _ _) fun K hK => ?_
        simp only [List.map_cons, List.map_nil, Option.getD_some, List.getElem?_toArray, List.getElem?_cons_zero, List.getElem?_cons_succ]
        iterate 1 (first | (apply quietO_cons _ rfl; (intro w' hs; have c_0 := hb1 w' hs; go_simp; rfl)) | apply quietO_skip rfl)
        refine hK _ ?_
        clear hK K
        simp only [Act.put, List.setIfInBounds_toArray, List.set_cons_zero, List.set_cons_succ]
        refine wpS_ps rfl fun K hK => ?_
        simp only [List.map_cons, List.map_nil, Option.getD_some, List.getElem?_toArray, List.getElem?_cons_zero, List.getElem?_cons_succ]
        iterate 3 (first | (apply quietO_cons _ rfl; (intro w' _; go_simp; rfl)) | apply quietO_skip rfl)
        refine hK _ ?_
        clear hK K
        simp only [Act.put, List.setIfInBounds_toArray, List.set_cons_zero, List.set_cons_succ]
        refine wpS_fs rfl (Keeps.refl _ _) fun K hK => ?_
        simp only [List.map_cons, List.map_nil, Option.getD_some, List.getElem?_toArray, List.getElem?_cons_zero, List.getElem?_cons_succ]
        iterate 1 (first | (apply quietO_cons _ rfl; (intro w' hs; have c_0 := hq2 w' hs; go_simp; rfl)) | apply quietO_skip rfl)
        refine hK _ ?_
        clear hK K
        simp only [Act.put, List.setIfInBounds_toArray, List.set_cons_zero, List.set_cons_succ]
        refine wpS_fs rfl (Keeps.refl _ _) fun K hK => ?_
        simp only [List.map_cons, List.map_nil, Option.getD_some, List.getElem?_toArray, List.getElem?_cons_zero, List.getElem?_cons_succ]
        iterate 1 (first | (apply quietO_cons _ rfl; (intro w' hs; have c_0 := hb0 w' hs; have c_1 := hb1 w' hs; go_simp; rfl)) | apply quietO_skip rfl)
        refine hK _ ?_
        clear hK K
        simp only [Act.put, List.setIfInBounds_toArray, List.set_cons_zero, List.set_cons_succ]
        refine wpS_fs rfl (Keeps.refl _ _) fun K hK => ?_
        simp only [List.map_cons, List.map_nil, Option.getD_some, List.getElem?_toArray, List.getElem?_cons_zero, List.getElem?_cons_succ]
        iterate 1 (first | (apply quietO_cons _ rfl; (intro w' hs; have c_0 := hlk w' hs; go_simp; rfl)) | apply quietO_skip rfl)
        refine hK _ ?_
        clear hK K
        simp only [Act.put, List.setIfInBounds_toArray, List.set_cons_zero, List.set_cons_succ]
        refine wpS_ps rfl fun K hK => ?_
        simp only [List.map_cons, List.map_nil, Option.getD_some, List.getElem?_toArray, List.getElem?_cons_zero, List.getElem?_cons_succ]
        iterate 1 (first | (apply quietO_cons _ rfl; (intro w' _; go_simp; rfl)) | apply quietO_skip rfl)
        refine hK _ ?_
        clear hK K
        simp only [Act.put, List.setIfInBounds_toArray, List.set_cons_zero, List.set_cons_succ]
        refine wpS_es rfl fun K hK => ?_
        have HK := Lib.hid hK
        clear hK
        simp only [List.map_cons, List.map_nil, Option.getD_some, List.getElem?_toArray, List.getElem?_cons_zero, List.getElem?_cons_succ]
        go_wp2_with fail
        rw [← Hw4.out]
        go_wp2_with fail
        refine HK.out _ _ (fun h => by cases h) ?_
        clear HK K
        refine wpS_nil ?_
        go_wp2_with fail
        go_roundw
        case rel => exact ⟨i + 1, ks'.set x s, by simp, by omega, Hd4.out, Hkx4.out⟩
        case measure => simp [intOf]; omega
    · obtain rfl : i = n := by omega
      have hiI : ¬ (i : Int) < i := by omega
      have hfin : D.upto kf i = ⟨D.size, settleN kf D.pend D.kept D.pend.length, D.pend, D.off, D.armed, D.left, D.keep, D.writes⟩ := by rw [DiskV.upto, Hnn.out]
      rw [hfin] at hd
      obtain ⟨w5, hw5⟩ : ∃ w5, w5 = (wr.alloc (.map #[] 0)).setCell ⟨d, 2, none⟩ (.map (some wr.heap.size)) := ⟨_, rfl⟩
      have hmm := @run_makeMap Try.prog
      have hka : Keeps nowhere wr (wr.alloc (.map #[] 0)) := (Keeps.refl nowhere wr).alloc _
      have hda := hd.same hka
      have c2 := hda.cell 2
      have f2 := hda.box.frozen 2
      simp at c2
      have hk5 : Keeps (only d) (wr.alloc (.map #[] 0)) w5 := by rw [hw5]; exact (Keeps.refl (only d) _).setCell (p := ⟨d, 2, none⟩) (fun _ => rfl) _
      have hb5 := hda.box.set_ 2 (.map (some wr.heap.size))
      rw [← hw5] at hb5
      have hm5 : KMap keyP w5 wr.heap.size [] := (KMap.new keyP wr).keep hk5 (fun e => by have := hd.box.lt; have e2 : wr.heap.size = d := e; omega)
      have hd5 := hda.fresh hk5 (b' := wr.heap.size) (by simpa using hb5) hm5
      have hkf5 : Keeps (DS d b (.slice A K c)) w w5 := ((Hk1.out.mono (T := DS d b (.slice A K c)) (fun _ _ h => h.elim)).trans hkx (fun _ _ h => h)).trans ((hka.mono (fun _ _ h => h.elim)).trans hk5 (fun _ _ h => h)) (fun _ _ e => .inl e)
      have hsz : w.heap.size ≤ wr.heap.size := Nat.le_trans Hk1.out.size hkx.size
      clear hda hb5 hm5 hk5 hka hd hkx hpr2
      have Hd5 := Lib.hid hd5
      have Hkf5 := Lib.hid hkf5
      have Hw5 := Lib.hid hw5
      have Hsz := Lib.hid hsz
      clear hd5 hkf5 hw5 hsz
      go_wp2_with fail
      rw [← Hw5.out]
      go_end0
      exact ⟨rfl, wr.heap.size, Hsz.out, ⟨ks', Hd5.out⟩, Hkf5.out⟩
end
end Go.Proofs.Ytnddaildicmneaa
