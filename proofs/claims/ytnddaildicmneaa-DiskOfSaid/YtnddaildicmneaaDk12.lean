/-
  disk: Read.
-/
import Derived.Test.YtnddaildicmneaaDk11
namespace Go.Proofs.Ytnddaildicmneaa
open Go.Proofs Go.RowKit Go.Sort Go.Maps

set_option maxRecDepth 8000 in
theorem clipB_any (v : Value) (l : List UInt8) (w : World) (hr : recB.Row w v l) : Calls Try.prog 60 #[v] w fun e w' => ∃ v' gb, e = .returned v' ∧ recB.Rd w' v' gb l ∧ (∀ b, gb = some b → v.ownBlock = some b) ∧ w' = w := by
  have hrd := hr.rd
  obtain ⟨A, c, rfl, h1, h2, h4⟩ := hr.form
  have hRd : recB.Rd w (.slice A l.length l.length) (Value.ownBlock (.slice A l.length c)) l := by
    obtain ⟨A', c', hv, k1, k2, k3, k4, k5⟩ := hrd
    injection hv with e1 e2 e3
    subst e1 e3
    exact ⟨A, _, rfl, Nat.le_refl _, Nat.le_trans k1 k2, k3, k4, fun h => by have := k5 h; omega⟩
  have h1' : (l.length : Int) ≤ c := by omega
  clear h4
  obtain ⟨L, hL⟩ : ∃ L, L = l.length := ⟨_, rfl⟩
  rw [← hL] at hRd h1' h1 ⊢
  have Hr := Lib.hid hr
  have Hrd := Lib.hid hrd
  have HRd := Lib.hid hRd
  have HL := Lib.hid hL
  clear hr hrd hRd hL
  go_enter Try.func60, Try.ntmps60
  go_wp2_with fail
  go_ret
  exact ⟨_, _, rfl, HRd.out, fun b hb => hb, rfl⟩

/-- what a sector reads as behind the first `i` pending writes -/
def readN (pd : List (Nat × List UInt8)) (k : List (List UInt8)) (s : Nat) : Nat → List UInt8
  | 0 => (k[s]?).getD []
  | i + 1 => match pd[i]? with
    | some p => if p.1 = s then p.2 else readN pd k s i
    | none => readN pd k s i
def DiskV.read (D : DiskV) (s : Nat) : List UInt8 := readN D.pend D.kept s D.pend.length
section
variable {w : World} {d b : Nat} {kv kp : Value} {ks : List SlV} {vs : List Value} {D : DiskV}
set_option maxHeartbeats 2000000 in
theorem dread_off (s : Int) (h : DAt w d b kv kp ks vs D) (ho : D.off = true) : Calls Try.prog 29 #[.pointer (some ⟨d, 0, none⟩), .int .i64 s] w fun e w' => e = .returned (.tuple #[.slice none 0 0, .int .i64 22]) ∧ Keeps nowhere w w' := by
  obtain ⟨q, hq⟩ : ∃ q, q = w.heap.size := ⟨_, rfl⟩
  obtain ⟨w1, hw1⟩ : ∃ w1, w1 = w.alloc (.cells #[.int .i64 0] 34) := ⟨_, rfl⟩
  have hk1 : Keeps nowhere w w1 := by rw [hw1]; exact (Keeps.refl nowhere w).alloc _
  have hbx : Blk w1 q 34 #[.int .i64 0] := by rw [hw1, hq]; exact box_new w 0
  have hon := don_off (h.same hk1) ho
  have hk2 : Keeps nowhere w (w1.setCell ⟨q, 0, none⟩ (.int .i64 22)) := hk1.setCell (p := ⟨q, 0, none⟩) (fun hlt => by simp at hlt; omega) _
  have hb2 := (hbx.set_ 0 (.int .i64 22)).cell 0
  simp at hb2
  have H := Lib.hid h
  have Hon := Lib.hid hon
  have Hw1 := Lib.hid hw1
  have Hq := Lib.hid hq
  have Hk1 := Lib.hid hk1
  have Hbx := Lib.hid hbx
  have Hk2 := Lib.hid hk2
  clear h hon hw1 hq hk1 hbx hk2
  go_enter_defers Try.func29, Try.ntmps29
  go_upto_region 2 with fail
  rw [← Hw1.out]
  simp only [← Hq.out]
  go_wp2_with fail
  refine Hon.out.mono ?_
  rintro e w' ⟨rfl, rfl⟩
  refine leaves_cons (f := 52) (args := #[.pointer (some ⟨q, 0, none⟩)]) (by simp) (by simp [go_sem]) ?_
  refine (dcaught_panic q 22 _ [] w1 Hbx.out).mono ?_
  rintro e u' w'' ⟨rfl, rfl, rfl⟩
  simp [Leaves, settle, results, Try.results29, go_sem, hb2]
  exact Hk2.out
set_option maxHeartbeats 2000000 in
theorem dread_arg (s : Int) (h : DAt w d b kv kp ks vs D) (ho : D.off = false) (hs : ¬ (0 ≤ s ∧ s < D.kept.length)) : Calls Try.prog 29 #[.pointer (some ⟨d, 0, none⟩), .int .i64 s] w fun e w' => e = .returned (.tuple #[.slice none 0 0, .int .i64 1]) ∧ Keeps nowhere w w' := by
  obtain ⟨q, hq⟩ : ∃ q, q = w.heap.size := ⟨_, rfl⟩
  obtain ⟨w1, hw1⟩ : ∃ w1, w1 = w.alloc (.cells #[.int .i64 0] 34) := ⟨_, rfl⟩
  have hk1 : Keeps nowhere w w1 := by rw [hw1]; exact (Keeps.refl nowhere w).alloc _
  have hbx : Blk w1 q 34 #[.int .i64 0] := by rw [hw1, hq]; exact box_new w 0
  have h1 := h.same hk1
  have hon := don_on h1 ho
  have hin := din_any s h1
  rw [show (decide (0 ≤ s) && decide (s < (D.kept.length : Int))) = false by simp; omega] at hin
  have c0 := hbx.cell 0
  have f0 := hbx.frozen 0
  simp at c0
  have hk2 : Keeps nowhere w (w1.setCell ⟨q, 0, none⟩ (.int .i64 1)) := hk1.setCell (p := ⟨q, 0, none⟩) (fun hlt => by simp at hlt; omega) _
  have hb2 := (hbx.set_ 0 (.int .i64 1)).cell 0
  simp at hb2
  have H := Lib.hid h
  have H1 := Lib.hid h1
  have Hon := Lib.hid hon
  have Hin := Lib.hid hin
  have Hw1 := Lib.hid hw1
  have Hq := Lib.hid hq
  have Hk1 := Lib.hid hk1
  have Hbx := Lib.hid hbx
  have Hk2 := Lib.hid hk2
  have Hs := Lib.hid hs
  clear h h1 hon hin hw1 hq hk1 hbx hk2 hs
  go_enter_defers Try.func29, Try.ntmps29
  go_upto_region 2 with fail
  rw [← Hw1.out]
  simp only [← Hq.out]
  go_wp2_with fail
  refine Hon.out.mono ?_
  rintro e w' ⟨rfl, rfl⟩
  go_wp2_with fail
  refine Hin.out.mono ?_
  rintro e w' ⟨rfl, rfl⟩
  go_wp2_with fail
  refine leaves_cons (f := 52) (args := #[.pointer (some ⟨q, 0, none⟩)]) (by simp) (by simp [go_sem]) ?_
  refine (dcaught_idle q _).mono ?_
  rintro e u' w'' ⟨rfl, rfl, rfl⟩
  simp [Leaves, settle, results, Try.results29, go_sem, hb2]
  exact Hk2.out
theorem read_len (h : DAt w d b kv kp ks vs D) {s : Nat} (hs : s < D.kept.length) : ∀ i, (readN D.pend D.kept s i).length = D.size
  | 0 => by
    obtain ⟨sl, hsl⟩ : ∃ sl, ks[s]? = some sl := ⟨_, List.getElem?_eq_getElem (by rw [h.klen]; exact hs)⟩
    have hL := List.getElem?_eq_getElem hs
    rw [readN, hL]
    exact (h.sec s sl _ hsl hL).2
  | i + 1 => by
    rw [readN]
    cases hp : D.pend[i]? with
    | none => exact read_len h hs i
    | some p =>
      simp only
      split
      · obtain ⟨sl, hsl⟩ := pend_sl h hp
        exact (h.pb i p _ hp hsl).2.1
      · exact read_len h hs i
set_option maxRecDepth 20000 in
set_option maxHeartbeats 8000000 in
theorem dread_ok (s : Nat) (h : DAt w d b kv kp ks vs D) (ho : D.off = false) (hs : s < D.kept.length) (hn : D.pend.length ≤ 90000) (hsz : D.size ≤ 1000000) (hkb : D.kept.length ≤ 1000000) :
    Calls Try.prog 29 #[.pointer (some ⟨d, 0, none⟩), .int .i64 s] w fun e w' => ∃ v g, e = .returned (.tuple #[v, .int .i64 0]) ∧ recB.Rd w' v g (D.read s) ∧ Above w.heap.size g ∧ Keeps nowhere w w' := by
  obtain ⟨q, hq⟩ : ∃ q, q = w.heap.size := ⟨_, rfl⟩
  obtain ⟨w1, hw1⟩ : ∃ w1, w1 = w.alloc (.cells #[.int .i64 0] 34) := ⟨_, rfl⟩
  have hk1 : Keeps nowhere w w1 := by rw [hw1]; exact (Keeps.refl nowhere w).alloc _
  have hbx : Blk w1 q 34 #[.int .i64 0] := by rw [hw1, hq]; exact box_new w 0
  have h1 := h.same hk1
  have hon := don_on h1 ho
  have hin := din_any (s : Int) h1
  rw [show (decide ((0 : Int) ≤ (s : Int)) && decide ((s : Int) < (D.kept.length : Int))) = true by simp; omega] at hin
  obtain ⟨A, c, hkv, hKc, hcm, -⟩ := h.kept.form
  unfold maxLen at hcm
  rw [h.klen] at hkv hKc
  obtain ⟨N, hN⟩ : ∃ N, N = D.kept.length := ⟨_, rfl⟩
  obtain ⟨n, hnn⟩ : ∃ n, n = D.pend.length := ⟨_, rfl⟩
  rw [← hN] at hkv hs hKc hkb
  rw [← hnn] at hn
  subst hkv
  obtain ⟨sl, hsl⟩ : ∃ sl, ks[s]? = some sl := ⟨_, List.getElem?_eq_getElem (by rw [h.klen, ← hN]; exact hs)⟩
  obtain ⟨L0, hL0⟩ : ∃ L, D.kept[s]? = some L := ⟨_, List.getElem?_eq_getElem (by rw [← hN]; exact hs)⟩
  have hsec := (h1.sec s sl L0 hsl hL0).1
  obtain ⟨bk, hbk, ck⟩ : ∃ bk, A = some ⟨bk, 0, none⟩ ∧ w1.cell? ⟨bk, s, none⟩ = some (.slice sl.1 sl.2.1 sl.2.2) := by
    rcases h1.kept.blk with ⟨hv0, h0⟩ | ⟨bk, cap, rest, hvk, hb, h2, h3, h4⟩
    · rw [h0] at hsl; simp at hsl
    · injection hvk with e1 e2 e3
      subst e1
      obtain ⟨A', c', hv', -, -, -, h5, -⟩ := h1.kept.rd
      obtain ⟨b2, o2, hA2, -, hc2⟩ := h5 (by rw [h.klen, ← hN]; omega)
      injection hv' with e4 e5 e6
      rw [← e4] at hA2
      injection hA2 with hA2
      injection hA2 with hA2 hA3
      subst hA2 hA3
      have := hc2 s sl hsl 0 (by decide)
      rw [Nat.zero_add, Nat.add_zero, show s * recS.n = s from Nat.mul_one s] at this
      exact ⟨bk, rfl, this⟩
  subst hbk
  have hs0 : (0 : Int) ≤ (s : Int) := by omega
  have hsI : (s : Int) < N := by omega
  have hrow := prow_any w1 d b n (secF D.pend) (ents D.pend vs) (by simpa using h1.cell 2) h1.map (by rw [hnn]; exact ents_fst _ _) (by omega)
  have c1 := h1.cell 1
  simp at c1
  have hr0 : readN D.pend D.kept s 0 = L0 := by rw [readN, hL0]; rfl
  have H := Lib.hid h
  have H1 := Lib.hid h1
  have Hon := Lib.hid hon
  have Hin := Lib.hid hin
  have Hw1 := Lib.hid hw1
  have Hq := Lib.hid hq
  have Hk1 := Lib.hid hk1
  have Hbx := Lib.hid hbx
  have HN := Lib.hid hN
  have Hnn := Lib.hid hnn
  have Hrow := Lib.hid hrow
  have Hsl := Lib.hid hsl
  have HL0 := Lib.hid hL0
  have Hsec := Lib.hid hsec
  have Hr0 := Lib.hid hr0
  clear h h1 hon hin hw1 hq hk1 hbx hN hnn hrow hsl hL0 hsec hr0
  go_enter_defers Try.func29, Try.ntmps29
  go_upto_region 2 with fail
  rw [← Hw1.out]
  simp only [← Hq.out]
  go_wp2_with fail
  refine Hon.out.mono ?_
  rintro e w' ⟨rfl, rfl⟩
  go_wp2_with fail
  refine Hin.out.mono ?_
  rintro e w' ⟨rfl, rfl⟩
  go_wp2_with fail
  refine Hrow.out.mono ?_
  rintro e w2 ⟨v, rfl, hpr, hab, hk2⟩
  obtain ⟨A1, c9, rfl, -⟩ := hpr.form
  rw [List.length_map, List.length_range] at hpr hab ⊢
  have h2 := H1.out.same hk2
  have hsec2 := Hsec.out.same hk2
  rw [← Hr0.out] at hsec2
  clear ck c1
  have Hpr := Lib.hid hpr
  have Hab := Lib.hid hab
  have Hk2 := Lib.hid hk2
  have H2 := Lib.hid h2
  have Hsec2 := Lib.hid hsec2
  clear hpr hab hk2 h2 hsec2
  go_wp2_with fail
  go_loopw [6, 25] (fun vb iv wr => ∃ i : Nat, iv = .int .i64 i ∧ i ≤ n ∧ recB.Row wr vb (readN D.pend D.kept s i) ∧ Keeps nowhere w2 wr) (fun _ iv _ => n - (intOf iv).toNat)
  case atStart => exact ⟨0, rfl, Nat.zero_le _, Hsec2.out, Keeps.refl _ _⟩
  case round =>
    obtain ⟨i, rfl, hi, hvb, hkx⟩ := hrel
    obtain ⟨Ab, cb, rfl, -⟩ := hvb.form
    obtain ⟨Lb, hLb⟩ : ∃ Lb, Lb = (readN D.pend D.kept s i).length := ⟨_, rfl⟩
    rw [← hLb] at hvb ⊢
    by_cases hlt : i < n
    · have hltI : (i : Int) < n := by omega
      have hi0 : (0 : Int) ≤ (i : Int) := by omega
      have hi1 : IntKind.i64.wrap ((i : Int) + 1) = i + 1 := IntWalk.i64_in _ (by omega)
      obtain ⟨⟨x, L⟩, hp⟩ : ∃ p, D.pend[i]? = some p := ⟨_, List.getElem?_eq_getElem (by rw [← Hnn.out]; exact hlt)⟩
      have hd := H2.out.same hkx
      obtain ⟨sp, hsp⟩ := pend_sl hd hp
      have hpv := hd.pb i _ _ hp hsp
      have hpl : ((List.range n).map (plc (secF D.pend)))[i]? = some ((i : Int), (x : Int)) := by
        rw [List.getElem?_map, List.getElem?_range hlt]
        simp [plc, secF, hp]
      obtain ⟨A', cp, hv', -, -, hu, h3, -⟩ := (Hpr.out.same hkx).rd
      injection hv' with e1 e2 e3
      clear e2 e3
      subst e1
      obtain ⟨bp, op, rfl, hgp, hcp⟩ := h3 (by rw [List.length_map, List.length_range]; omega)
      have hc := hcp i _ hpl
      have d0 := hc 0 (by decide)
      have d1 := hc 1 (by decide)
      rw [Nat.add_zero] at d0
      rw [show i * recP.n = i * 2 from rfl] at d0 d1
      simp only [recP, List.getElem?_cons_zero, List.getElem?_cons_succ] at d0 d1
      obtain ⟨W, hW⟩ : ∃ W, W = wr.alloc (.cells #[.int .i64 (i : Int), .int .i64 (x : Int)] 104) := ⟨_, rfl⟩
      obtain ⟨q2, hq2⟩ : ∃ q2, q2 = wr.heap.size := ⟨_, rfl⟩
      have hkW : Keeps nowhere wr W := by rw [hW]; exact (Keeps.refl nowhere wr).alloc _
      have hbx2 : Blk W q2 104 #[.int .i64 (i : Int), .int .i64 (x : Int)] := by rw [hW, hq2]; exact Blk.new _ _ _
      have hdW := hd.same hkW
      have hkxW := hkx.more hkW
      have hvbW := hvb.same hkW
      have hpvW := hpv.1.same hkW
      clear hcp hc h3 hu hpl hgp hd hpv
      have Hkx := Lib.hid hkx
      have Hp := Lib.hid hp
      have Hsp := Lib.hid hsp
      have HW := Lib.hid hW
      have Hq2 := Lib.hid hq2
      have Hbx2 := Lib.hid hbx2
      have HdW := Lib.hid hdW
      have HkxW := Lib.hid hkxW
      have HvbW := Lib.hid hvbW
      have HpvW := Lib.hid hpvW
      have HkW := Lib.hid hkW
      have Hvb := Lib.hid hvb
      have HLb := Lib.hid hLb
      clear hkx hp hsp hW hq2 hbx2 hdW hkxW hvbW hpvW hkW hvb hLb
      go_upto_region 9 with fail
      rw [← HW.out]
      simp only [← Hq2.out]
      clear d0 d1 HW
      have d1 := Hbx2.out.cell 1
      simp at d1
      by_cases hxs : x = s
      · have hxI : ((x : Int) == (s : Int)) = true := by simp [hxs]
        have hstep : readN D.pend D.kept s (i + 1) = L := by rw [readN, Hp.out]; simp only; rw [if_pos hxs]
        have hm2 : ∀ w', Keeps nowhere W.drew w' → w'.cell? ⟨d, 2, none⟩ = some (.map (some b)) := fun w' hh => by simpa using (HdW.out.same ((Keeps.refl nowhere W).drew.more hh)).cell 2
        have hb0 : ∀ w', Keeps nowhere W.drew w' → w'.cell? ⟨q2, 0, none⟩ = some (.int .i64 (i : Int)) := fun w' hh => by simpa using (Blk.keep Hbx2.out ((Keeps.refl nowhere W).drew.more hh) (fun h => h)).cell 0
        have hb1 : ∀ w', Keeps nowhere W.drew w' → w'.cell? ⟨q2, 1, none⟩ = some (.int .i64 (x : Int)) := fun w' hh => by simpa using (Blk.keep Hbx2.out ((Keeps.refl nowhere W).drew.more hh) (fun h => h)).cell 1
        have hlk : ∀ w', Keeps nowhere W.drew w' → (Instr.lookup 94 (.map (some b)) (.agg #[.int .i64 (i : Int), .int .i64 (x : Int)]) false).run Try.prog w' = .ok (.slice sp.1 sp.2.1 sp.2.2) w' := fun w' hh => by
          have hdw := HdW.out.same ((Keeps.refl nowhere W).drew.more hh)
          have := hdw.map.look (K := keyP) (t := 94) (e := 41) Try.underlying94 (z := .slice none 0 0) (by kernel_rfl) (x := ((i : Int), (x : Int))) ⟨wfI_nat i (by omega), wfI_nat x (by omega)⟩
          rw [hdw.ent Hp.out Hsp.out] at this
          exact this
        have hpv3 := HpvW.out
        unfold SlV.v at hpv3
        rw [← hstep] at hpv3
        have Hxs := Lib.hid hxs
        have Hstep := Lib.hid hstep
        have Hpv3 := Lib.hid hpv3
        clear hxs hstep hpv3
        go_wp2_with fail
        refine wp_region_script [0, 1, 2, 3, 4, 5, 6] [3, 4, 5] [.ps [0, 1, 2], .fs [3], .fs [4], .fs [5], .ps [6]] (Keeps nowhere W.drew) rfl (by kernel_rfl) ?_
        refine wpS_ps rfl fun K hK => ?_
        simp only [List.map_cons, List.map_nil, Option.getD_some, List.getElem?_toArray, List.getElem?_cons_zero, List.getElem?_cons_succ]
        iterate 3 (first | (apply quietO_cons _ rfl; (intro w' _; go_simp; rfl)) | apply quietO_skip rfl)
        refine hK _ ?_
        clear hK K
        simp only [Act.put, List.setIfInBounds_toArray, List.set_cons_zero, List.set_cons_succ]
        refine wpS_fs rfl (Keeps.refl _ _) fun K hK => ?_
        simp only [List.map_cons, List.map_nil, Option.getD_some, List.getElem?_toArray, List.getElem?_cons_zero, List.getElem?_cons_succ]
        iterate 1 (first | (apply quietO_cons _ rfl; (intro w' hs; have c_0 := hm2 w' hs; go_simp; rfl)) | apply quietO_skip rfl)
        refine hK _ ?_
        clear hK K
        simp only [Act.put, List.setIfInBounds_toArray, List.set_cons_zero, List.set_cons_succ]
        refine wpS_fs rfl (Keeps.refl _ _) fun K hK => ?_
        simp only [List.map_cons, List.map_nil, Option.getD_some, List.getElem?_toArray, List.getElem?_cons_zero, List.getElem?_cons_succ]
        iterate 1 (first | (apply quietO_cons _ rfl; (intro w' hs; have c_0 := hb0 w' hs; have c_1 := hb1 w' hs; go_simp; rfl)) | apply quietO_skip rfl)
        refine hK _ ?_
        clear hK K
        simp only [Act.put, List.setIfInBounds_toArray, List.set_cons_zero, List.set_cons_succ]
        refine wpS_fs rfl (Keeps.refl _ _) fun K hK => ?_
        simp only [List.map_cons, List.map_nil, Option.getD_some, List.getElem?_toArray, List.getElem?_cons_zero, List.getElem?_cons_succ]
        iterate 1 (first | (apply quietO_cons _ rfl; (intro w' hs; have c_0 := hlk w' hs; go_simp; rfl)) | apply quietO_skip rfl)
        refine hK _ ?_
        clear hK K
        simp only [Act.put, List.setIfInBounds_toArray, List.set_cons_zero, List.set_cons_succ]
        refine wpS_ps rfl fun K hK => ?_
        simp only [List.map_cons, List.map_nil, Option.getD_some, List.getElem?_toArray, List.getElem?_cons_zero, List.getElem?_cons_succ]
        iterate 1 (first | (apply quietO_cons _ rfl; (intro w' _; go_simp; rfl)) | apply quietO_skip rfl)
        refine hK _ ?_
        clear hK K
        simp only [Act.put, List.setIfInBounds_toArray, List.set_cons_zero, List.set_cons_succ]
        refine wpS_nil ?_
        go_wp2_with fail
        go_roundw
        case rel => exact ⟨i + 1, by simp, by omega, Hpv3.out.same (Keeps.refl nowhere W).drew, HkxW.out.drew⟩
        case measure => simp [intOf]; omega
      · have hxI : ((x : Int) == (s : Int)) = false := by simp; omega
        have hstep : readN D.pend D.kept s (i + 1) = readN D.pend D.kept s i := by rw [readN, Hp.out]; simp only; rw [if_neg hxs]
        have hvb3 := HvbW.out
        rw [← hstep] at hvb3
        have Hxs := Lib.hid hxs
        have Hstep := Lib.hid hstep
        have Hvb3 := Lib.hid hvb3
        clear hxs hstep hvb3
        go_wp2_with fail
        go_roundw
        case rel => exact ⟨i + 1, by simp, by omega, Hvb3.out, HkxW.out⟩
        case measure => simp [intOf]; omega
    · obtain rfl : i = n := by omega
      have hiI : ¬ (i : Int) < i := by omega
      have hLen : (readN D.pend D.kept s i).length ≤ 100000000 := by
        have := read_len H1.out (by rw [← HN.out]; exact hs) i
        omega
      have hcl := clB_any _ _ _ wr hvb.rd hLen
      have hrd : D.read s = readN D.pend D.kept s i := by rw [DiskV.read, ← Hnn.out]
      have hbxr := Hbx.out.keep (Hk2.out.more hkx) (fun h => h)
      have hkr := Hk1.out.more (Hk2.out.more hkx)
      clear hLen
      have Hkx := Lib.hid hkx
      have Hcl := Lib.hid hcl
      have Hvb := Lib.hid hvb
      have Hrd := Lib.hid hrd
      have HLb := Lib.hid hLb
      have Hbxr := Lib.hid hbxr
      have Hkr := Lib.hid hkr
      clear hkx hcl hvb hrd hLb hbxr hkr
      go_wp2_with fail
      refine Hcl.out.mono ?_
      rintro e w5 ⟨v5, rfl, hrow5, hab5, hk5⟩
      have hcp := clipB_any v5 _ w5 hrow5
      have Hrow5 := Lib.hid hrow5
      have Hab5 := Lib.hid hab5
      have Hk5 := Lib.hid hk5
      have Hcp := Lib.hid hcp
      clear hrow5 hab5 hk5 hcp
      go_wp2_with fail
      refine Hcp.out.mono ?_
      rintro e w6 ⟨v6, g6, rfl, hrd6, hg6, rfl⟩
      have hb5 := Hbxr.out.keep Hk5.out (fun h => h)
      have c0 := hb5.cell 0
      have f0 := hb5.frozen 0
      simp at c0
      have hb6 := (hb5.set_ 0 (.int .i64 0)).cell 0
      simp at hb6
      have hkq : Keeps (only q) w6 (w6.setCell ⟨q, 0, none⟩ (.int .i64 0)) := (Keeps.refl (only q) w6).setCell (p := ⟨q, 0, none⟩) (fun _ => rfl) _
      have hab6 : Above w.heap.size g6 := fun b' hb' => Nat.le_trans (Hkr.out.size) (Hab5.out b' (hg6 b' hb'))
      have hrd7 := hrd6.keep hkq (fun b' hb' e => by have e2 : b' = q := e; have h7 := Hab5.out b' (hg6 b' hb'); have := Hbxr.out.lt; omega)
      have hk7 : Keeps nowhere w (w6.setCell ⟨q, 0, none⟩ (.int .i64 0)) := (Hkr.out.more Hk5.out).setCell (p := ⟨q, 0, none⟩) (fun hlt => by have := Hq.out; simp at hlt; omega) _
      rw [← Hrd.out] at hrd7
      obtain ⟨A6, c6, rfl, -⟩ := id hrd6
      clear hrd6 hg6 hkq hb5
      have Hrd7 := Lib.hid hrd7
      have Hk7 := Lib.hid hk7
      have Hab6 := Lib.hid hab6
      clear hrd7 hk7 hab6
      go_wp2_with fail
      refine leaves_cons (f := 52) (args := #[.pointer (some ⟨q, 0, none⟩)]) (by simp) (by simp [go_sem]) ?_
      refine (dcaught_idle q _).mono ?_
      rintro e u' w'' ⟨rfl, rfl, rfl⟩
      simp [Leaves, settle, results, Try.results29, go_sem, hb6]
      exact ⟨g6, Hrd7.out, Hab6.out, Hk7.out⟩
end
end Go.Proofs.Ytnddaildicmneaa
