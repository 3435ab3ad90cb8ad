/-
  disk: Write: it waits; or the power goes. (wip/gen_dk11.py)
-/
import Derived.Test.YtnddaildicmneaaDk10
namespace Go.Proofs.Ytnddaildicmneaa
open Go.Proofs Go.RowKit Go.Sort Go.Maps
section
variable {w : World} {d b : Nat} {kv kp : Value} {ks : List SlV} {vs : List Value} {D : DiskV}
/-- the result's box is written -/
theorem DAt.boxed (h : DAt w d b kv kp ks vs D) {q : Nat} {T : TypeId} {cs : Array Value} (hq : Blk w q T cs) (hT : T = 34) (hqd : ¬ DS d b kv q) (u : Value) : DAt (w.setCell ⟨q, 0, none⟩ u) d b kv kp ks vs D := by
  subst hT
  refine h.keepAll (S := only q) ((Keeps.refl (only q) w).setCell (p := ⟨q, 0, none⟩) (fun _ => rfl) u) (fun k hk e => hqd (by have e2 : k = q := e; rw [← e2]; exact hk)) (fun k e cs2 T2 fr hh => ?_)
  have e2 : k = q := e
  subst e2
  unfold Blk at hq
  rw [hq] at hh
  injection hh with hh
  injection hh with _ hh
  rw [← hh]; decide
set_option maxRecDepth 20000 in
set_option maxHeartbeats 4000000 in
theorem dwrite_ok (x : Nat) (v : Value) (g : Option Nat) (L : List UInt8) (h : DAt w d b kv kp ks vs D) (hr : recB.Rd w v g L) (ho : D.off = false) (ha : D.armed = false) (hx : x < D.kept.length) (hlen : L.length = D.size) (hn : D.pend.length ≤ 90000) (hsz : D.size ≤ 1000000) (hxb : D.kept.length ≤ 1000000) (hwb : D.writes < 1000000000) :
    Calls Try.prog 23 #[.pointer (some ⟨d, 0, none⟩), .int .i64 x, v] w fun e w' => e = .returned (.int .i64 0) ∧ (∃ vs', DAt w' d b kv kp ks vs' (D.wrote x L)) ∧ Keeps (DS d b kv) w w' := by
  obtain ⟨q, hq⟩ : ∃ q, q = w.heap.size := ⟨_, rfl⟩
  obtain ⟨w1, hw1⟩ : ∃ w1, w1 = w.alloc (.cells #[.int .i64 0] 34) := ⟨_, rfl⟩
  have hk1 : Keeps nowhere w w1 := by rw [hw1]; exact (Keeps.refl nowhere w).alloc _
  have hbx : Blk w1 q 34 #[.int .i64 0] := by rw [hw1, hq]; exact box_new w 0
  have h1 := h.same hk1
  have hon := don_on h1 ho
  have hin := din_any (x : Int) h1
  have hr0 := hr
  obtain ⟨A, c, rfl, -⟩ := hr
  have z0 := h1.cell 0
  have z4 := h1.cell 4
  rw [ha] at z4
  simp at z0 z4
  have hqd : ¬ DS d b kv q := by
    rintro (e | e | e)
    · have := h.box.lt; omega
    · have := h.map.lt; omega
    · have := h.kept.lt q e; omega
  obtain ⟨N, hN⟩ : ∃ N, N = D.kept.length := ⟨_, rfl⟩
  obtain ⟨Z, hZ⟩ : ∃ Z, Z = D.size := ⟨_, rfl⟩
  obtain ⟨n, hL⟩ : ∃ n, n = L.length := ⟨_, rfl⟩
  obtain ⟨P, hP⟩ : ∃ P, P = D.pend.length := ⟨_, rfl⟩
  rw [← hN] at hin hx
  rw [← hZ] at z0 hlen
  rw [← hL] at hlen hr0 ⊢
  rw [← hP] at hn
  have hin2 : (decide ((0 : Int) ≤ (x : Int)) && decide ((x : Int) < (N : Int))) = true := by simp; omega
  rw [hin2] at hin
  have hnz : ((n : Int) != (Z : Int)) = false := by simp; omega
  have hr1 := hr0.same hk1
  have hkW := hk1.mono (T := DS d b kv) (fun _ _ h => h.elim)
  have hnZ := hlen
  clear hlen
  have hb2 := hbx
  have hr2 := hr1
  rw [← hZ] at hsz
  rw [← hN] at hxb
  have H := Lib.hid h
  have H1 := Lib.hid h1
  have Hon := Lib.hid hon
  have Hw1 := Lib.hid hw1
  have Hq := Lib.hid hq
  have Hk1 := Lib.hid hk1
  have Hbx := Lib.hid hbx
  have HN := Lib.hid hN
  have HZ := Lib.hid hZ
  have HL := Lib.hid hL
  have HP := Lib.hid hP
  have Hin := Lib.hid hin
  have Hr0 := Lib.hid hr0
  have Hr1 := Lib.hid hr1
  have Hqd := Lib.hid hqd
  have HkW := Lib.hid hkW
  have HnZ := Lib.hid hnZ
  have Hb2 := Lib.hid hb2
  have Hr2 := Lib.hid hr2
  have Hwb := Lib.hid hwb
  clear h h1 hon hw1 hq hk1 hbx hN hZ hL hP hin hr0 hr1 hqd hkW hnZ hb2 hr2 hwb
  go_enter_defers Try.func23, Try.ntmps23
  go_upto_region 2 with fail
  rw [← Hw1.out]
  simp only [← Hq.out]
  go_wp2_with fail
  refine Hon.out.mono ?_
  rintro e w' ⟨rfl, rfl⟩
  go_wp2_with fail
  refine Hin.out.mono ?_
  rintro e w' ⟨rfl, rfl⟩
  have hq2 : ∀ w', Keeps nowhere w1.drew w' → w'.cell? ⟨d, 2, none⟩ = some (.map (some b)) := fun w' hh => by simpa using (H1.out.same ((Keeps.refl nowhere w1).drew.more hh)).cell 2
  have hlen : ∀ w', Keeps nowhere w1.drew w' → (Builtin.len_ #[94] 3 #[.map (some b)]).run Try.prog w' = .ok (.int .i64 P) w' := fun w' hh => by
    have := (H1.out.same ((Keeps.refl nowhere w1).drew.more hh)).map.len (t := 94) (e := 41) Try.underlying94 3
    rw [ents_len] at this
    rw [HP.out]; exact this
  go_wp2_with fail
  refine wp_region_script [0, 1, 2, 3, 4, 5, 6, 7, 8, 9, 10, 11] [3, 7, 8] [.ps [0, 1, 2], .fs [3], .ps [4, 5, 6], .fs [7], .fs [8], .ps [9, 10, 11], .es [12] true, .es [13] false] (Keeps nowhere w1.drew) rfl (by kernel_rfl) ?_
  refine wpS_ps rfl fun K hK => ?_
  simp only [List.map_cons, List.map_nil, Option.getD_some, List.getElem?_toArray, List.getElem?_cons_zero, List.getElem?_cons_succ]
  iterate 3 (first | (apply quietO_cons _ rfl; (intro w' _; go_simp; rfl)) | apply quietO_skip rfl)
  refine hK _ ?_
  clear hK K
  simp only [Act.put, List.setIfInBounds_toArray, List.set_cons_zero, List.set_cons_succ]
  refine wpS_fs rfl (Keeps.refl _ _) fun K hK => ?_
  simp only [List.map_cons, List.map_nil, Option.getD_some, List.getElem?_toArray, List.getElem?_cons_zero, List.getElem?_cons_succ]
  iterate 1 (first | (apply quietO_cons _ rfl; (intro w' hs; have c_0 := hq2 w' hs; go_simp; rfl)) | apply quietO_skip rfl)
  refine hK _ ?_
  clear hK K
  simp only [Act.put, List.setIfInBounds_toArray, List.set_cons_zero, List.set_cons_succ]
  refine wpS_ps rfl fun K hK => ?_
  simp only [List.map_cons, List.map_nil, Option.getD_some, List.getElem?_toArray, List.getElem?_cons_zero, List.getElem?_cons_succ]
  iterate 3 (first | (apply quietO_cons _ rfl; (intro w' _; go_simp; rfl)) | apply quietO_skip rfl)
  refine hK _ ?_
  clear hK K
  simp only [Act.put, List.setIfInBounds_toArray, List.set_cons_zero, List.set_cons_succ]
  refine wpS_fs rfl (Keeps.refl _ _) fun K hK => ?_
  simp only [List.map_cons, List.map_nil, Option.getD_some, List.getElem?_toArray, List.getElem?_cons_zero, List.getElem?_cons_succ]
  iterate 1 (first | (apply quietO_cons _ rfl; (intro w' hs; have c_0 := hq2 w' hs; go_simp; rfl)) | apply quietO_skip rfl)
  refine hK _ ?_
  clear hK K
  simp only [Act.put, List.setIfInBounds_toArray, List.set_cons_zero, List.set_cons_succ]
  refine wpS_fs rfl (Keeps.refl _ _) fun K hK => ?_
  simp only [List.map_cons, List.map_nil, Option.getD_some, List.getElem?_toArray, List.getElem?_cons_zero, List.getElem?_cons_succ]
  iterate 1 (first | (apply quietO_cons _ rfl; (intro w' hs; have c_0 := hlen w' hs; go_simp; rfl)) | apply quietO_skip rfl)
  refine hK _ ?_
  clear hK K
  simp only [Act.put, List.setIfInBounds_toArray, List.set_cons_zero, List.set_cons_succ]
  refine wpS_ps rfl fun K hK => ?_
  simp only [List.map_cons, List.map_nil, Option.getD_some, List.getElem?_toArray, List.getElem?_cons_zero, List.getElem?_cons_succ]
  iterate 3 (first | (apply quietO_cons _ rfl; (intro w' _; go_simp; rfl)) | apply quietO_skip rfl)
  refine hK _ ?_
  clear hK K
  simp only [Act.put, List.setIfInBounds_toArray, List.set_cons_zero, List.set_cons_succ]
  clear hq2 hlen
  refine wpS_es rfl fun K hK => ?_
  have HK := Lib.hid hK
  clear hK
  simp only [List.map_cons, List.map_nil, Option.getD_some, List.getElem?_toArray, List.getElem?_cons_zero, List.getElem?_cons_succ]
  go_wp2_with fail
  have hkd := (Keeps.refl nowhere w1).drew
  refine (clB_any _ _ L w1.drew (Hr2.out.same hkd) (by have := HL.out; have := HnZ.out; omega)).mono ?_
  rintro e w3 ⟨v', rfl, hrow, hab, hk3⟩
  have hd3 := H1.out.same (hkd.more hk3)
  have hb3 := Hb2.out.keep (hkd.more hk3) (fun h => h)
  obtain ⟨w4, hput, hm4, hk4⟩ := hd3.map.put (t := 94) (e := 41) Try.underlying94 (x := ((P : Int), (x : Int))) ⟨wfI_nat P (by omega), wfI_nat x (by omega)⟩ v' (by rw [ents_len]; have := HP.out; show D.pend.length < 1000000; omega)
  have hrow4 := hrow.keep hk4 (fun b' e hs => by have e2 : b' = b := hs; subst e2; exact row_raw hrow (.inl rfl) (hd3.notRaw _ (.inr (.inl rfl))) e)
  rw [HP.out] at hm4
  have hd4 := hd3.more hk4 hm4 hrow4 (show L.length = D.size by rw [← HL.out, ← HZ.out]; exact HnZ.out) (by have := HN.out; show x < D.kept.length; omega)
  have hb4 := hb3.keep hk4 (fun e => Hqd.out (.inr (.inl e)))
  have hput2 : (Instr.mapUpdate 94 (.map (some b)) (.agg #[.int .i64 (P : Int), .int .i64 (x : Int)]) v').run Try.prog w3 = .ok () w4 := hput
  have hkz := (hkd.more hk3)
  have hk14 : Keeps (DS d b kv) w1 w4 := (hkz.mono (T := DS d b kv) (fun _ _ h => h.elim)).trans hk4 (fun _ _ e => .inr (.inl e))
  clear hput hm4 hrow4 hd3 hb3 hrow hab
  have Hd4 := Lib.hid hd4
  have Hb4 := Lib.hid hb4
  have Hkz := Lib.hid hkz
  have Hk4 := Lib.hid hk4
  have Hk14 := Lib.hid hk14
  clear hd4 hb4 hkz hk4 hk14
  go_wp2_with fail
  refine HK.out _ _ (fun _ => hk3) ?_
  clear HK K
  refine wpS_es rfl fun K hK => ?_
  have HK := Lib.hid hK
  clear hK
  simp only [List.map_cons, List.map_nil, Option.getD_some, List.getElem?_toArray, List.getElem?_cons_zero, List.getElem?_cons_succ]
  go_wp2_with fail
  clear hput2
  go_wp2_with fail
  refine HK.out _ _ (fun h => by cases h) ?_
  clear HK K
  refine wpS_nil ?_
  have c7 := Hd4.out.cell 7
  have f7 := Hd4.out.box.frozen 7
  simp at c7
  have hwr : IntKind.i64.wrap (((D).writes : Int) + 1) = ((D).writes : Int) + 1 := IntWalk.i64_in _ (by have := Hwb.out; have e9 : (D).writes = D.writes := rfl; omega)
  obtain ⟨w5, hw5⟩ : ∃ w5, w5 = w4.setCell ⟨d, 7, none⟩ (.int .i64 (((D).writes : Int) + 1)) := ⟨_, rfl⟩
  have hk5 : Keeps (only d) w4 w5 := by rw [hw5]; exact (Keeps.refl (only d) w4).setCell (p := ⟨d, 7, none⟩) (fun _ => rfl) _
  have hbd := Hd4.out.box.set_ 7 (.int .i64 (((D).writes : Int) + 1))
  rw [← hw5] at hbd
  have hd5 := Hd4.out.turn hk5 (off := (D).off) (armed := (D).armed) (left := (D).left) (kp' := kp) (keep := (D).keep) (writes := (D).writes + 1) (by simpa using hbd) (Hd4.out.keep.keep hk5 (fun b' e hs => by have e2 : b' = d := hs; subst e2; exact row_raw Hd4.out.keep (.inr rfl) (Hd4.out.notRaw _ (.inl rfl)) e))
  have hb5 := Hb4.out.keep hk5 (fun e => Hqd.out (.inl e))
  have c0 := hb5.cell 0
  have f0 := hb5.frozen 0
  simp at c0
  have hd6 := DAt.boxed hd5 hb5 rfl Hqd.out (.int .i64 0)
  have hb6 := (hb5.set_ 0 (.int .i64 0)).cell 0
  simp at hb6
  have hk6 : Keeps (DS d b kv) w (w5.setCell ⟨q, 0, none⟩ (.int .i64 0)) := ((HkW.out.trans Hk14.out (fun _ _ h => h)).trans hk5 (fun _ _ e => .inl e)).setCell (p := ⟨q, 0, none⟩) (fun hlt => by have := Hq.out; simp at hlt; omega) _
  clear hd5 hb5 hbd hk5
  rw [hw5] at c0 f0
  have Hd6 := Lib.hid hd6
  have Hk6 := Lib.hid hk6
  have Hw5 := Lib.hid hw5
  clear hd6 hk6 hw5
  go_wp2_with fail
  rw [← Hw5.out]
  refine leaves_cons (f := 52) (args := #[.pointer (some ⟨q, 0, none⟩)]) (by simp) (by simp [go_sem]) ?_
  refine (dcaught_idle q _).mono ?_
  rintro e u' w'' ⟨rfl, rfl, rfl⟩
  simp [Leaves, settle, results, Try.results23, go_sem, hb6]
  exact ⟨⟨_, Hd6.out⟩, Hk6.out⟩
set_option maxRecDepth 20000 in
set_option maxHeartbeats 4000000 in
theorem dwrite_less (x : Nat) (v : Value) (g : Option Nat) (L : List UInt8) (h : DAt w d b kv kp ks vs D) (hr : recB.Rd w v g L) (ho : D.off = false) (ha : D.armed = true) (hg : ∀ k, g = some k → ¬ DS d b kv k) (hl1 : 2 ≤ D.left) (hl2 : D.left ≤ 9223372036854775807) (hx : x < D.kept.length) (hlen : L.length = D.size) (hn : D.pend.length ≤ 90000) (hsz : D.size ≤ 1000000) (hxb : D.kept.length ≤ 1000000) (hwb : D.writes < 1000000000) :
    Calls Try.prog 23 #[.pointer (some ⟨d, 0, none⟩), .int .i64 x, v] w fun e w' => e = .returned (.int .i64 0) ∧ (∃ vs', DAt w' d b kv kp ks vs' (D.less.wrote x L)) ∧ Keeps (DS d b kv) w w' := by
  obtain ⟨q, hq⟩ : ∃ q, q = w.heap.size := ⟨_, rfl⟩
  obtain ⟨w1, hw1⟩ : ∃ w1, w1 = w.alloc (.cells #[.int .i64 0] 34) := ⟨_, rfl⟩
  have hk1 : Keeps nowhere w w1 := by rw [hw1]; exact (Keeps.refl nowhere w).alloc _
  have hbx : Blk w1 q 34 #[.int .i64 0] := by rw [hw1, hq]; exact box_new w 0
  have h1 := h.same hk1
  have hon := don_on h1 ho
  have hin := din_any (x : Int) h1
  have hr0 := hr
  obtain ⟨A, c, rfl, -⟩ := hr
  have z0 := h1.cell 0
  have z4 := h1.cell 4
  rw [ha] at z4
  simp at z0 z4
  have hqd : ¬ DS d b kv q := by
    rintro (e | e | e)
    · have := h.box.lt; omega
    · have := h.map.lt; omega
    · have := h.kept.lt q e; omega
  obtain ⟨N, hN⟩ : ∃ N, N = D.kept.length := ⟨_, rfl⟩
  obtain ⟨Z, hZ⟩ : ∃ Z, Z = D.size := ⟨_, rfl⟩
  obtain ⟨n, hL⟩ : ∃ n, n = L.length := ⟨_, rfl⟩
  obtain ⟨P, hP⟩ : ∃ P, P = D.pend.length := ⟨_, rfl⟩
  rw [← hN] at hin hx
  rw [← hZ] at z0 hlen
  rw [← hL] at hlen hr0 ⊢
  rw [← hP] at hn
  have hin2 : (decide ((0 : Int) ≤ (x : Int)) && decide ((x : Int) < (N : Int))) = true := by simp; omega
  rw [hin2] at hin
  have hnz : ((n : Int) != (Z : Int)) = false := by simp; omega
  have hr1 := hr0.same hk1
  have z5 := h1.cell 5
  have g5 := h1.box.frozen 5
  simp at z5
  obtain ⟨w2, hw2⟩ : ∃ w2, w2 = w1.setCell ⟨d, 5, none⟩ (.int .i64 (D.left - 1)) := ⟨_, rfl⟩
  have hk2 : Keeps (only d) w1 w2 := by rw [hw2]; exact (Keeps.refl (only d) w1).setCell (p := ⟨d, 5, none⟩) (fun _ => rfl) _
  have hbd := h1.box.set_ 5 (.int .i64 (D.left - 1))
  rw [← hw2] at hbd
  have h2 : DAt w2 d b kv kp ks vs D.less := h1.turn hk2 (off := D.off) (armed := D.armed) (left := D.left - 1) (kp' := kp) (keep := D.keep) (writes := D.writes) (by simpa using hbd) (h1.keep.keep hk2 (fun b' e hs => by have e2 : b' = d := hs; subst e2; exact row_raw h1.keep (.inr rfl) (h1.notRaw _ (.inl rfl)) e))
  have hb2 := hbx.keep hk2 (fun e => hqd (.inl e))
  have z5b := h2.cell 5
  have z6b := h2.cell 6
  simp only [DiskV.less] at z5b z6b
  simp at z5b z6b
  obtain ⟨F, hF⟩ : ∃ F, F = D.left - 1 := ⟨_, rfl⟩
  rw [← hF] at hw2 z5b
  rw [hw2] at z5b
  have hkW := (hk1.mono (T := DS d b kv) (fun _ _ h => h.elim)).trans hk2 (fun _ _ e => .inl e)
  obtain ⟨G, hG⟩ : ∃ G, G = D.left := ⟨_, rfl⟩
  rw [← hG] at z5
  have hwl : IntKind.i64.wrap (G - 1) = F := by rw [hG, hF]; exact IntWalk.i64_in _ (by omega)
  have hnZ := hlen
  clear hlen
  rw [← hZ] at hsz
  rw [← hN] at hxb
  have hr2 := hr1.keep hk2 (fun k e hs => by have e2 : k = d := hs; subst e2; exact hg _ e (.inl rfl))
  have hF1 : ¬ F < 1 := by omega
  clear hbd
  have H := Lib.hid h
  have H1 := Lib.hid h1
  have Hon := Lib.hid hon
  have Hw1 := Lib.hid hw1
  have Hq := Lib.hid hq
  have Hk1 := Lib.hid hk1
  have Hbx := Lib.hid hbx
  have HN := Lib.hid hN
  have HZ := Lib.hid hZ
  have HL := Lib.hid hL
  have HP := Lib.hid hP
  have Hin := Lib.hid hin
  have Hr0 := Lib.hid hr0
  have Hr1 := Lib.hid hr1
  have Hqd := Lib.hid hqd
  have HkW := Lib.hid hkW
  have HnZ := Lib.hid hnZ
  have Hb2 := Lib.hid hb2
  have Hr2 := Lib.hid hr2
  have Hwb := Lib.hid hwb
  have Hw2 := Lib.hid hw2
  have Hk2 := Lib.hid hk2
  have H2 := Lib.hid h2
  have HF := Lib.hid hF
  have HG := Lib.hid hG
  clear h h1 hon hw1 hq hk1 hbx hN hZ hL hP hin hr0 hr1 hqd hkW hnZ hb2 hr2 hwb hw2 hk2 h2 hF hG
  go_enter_defers Try.func23, Try.ntmps23
  go_upto_region 2 with fail
  rw [← Hw1.out]
  simp only [← Hq.out]
  go_wp2_with fail
  refine Hon.out.mono ?_
  rintro e w' ⟨rfl, rfl⟩
  go_wp2_with fail
  refine Hin.out.mono ?_
  rintro e w' ⟨rfl, rfl⟩
  go_upto_region 10 with fail
  rw [← Hw2.out]
  have hq2 : ∀ w', Keeps nowhere w2.drew w' → w'.cell? ⟨d, 2, none⟩ = some (.map (some b)) := fun w' hh => by simpa using (H2.out.same ((Keeps.refl nowhere w2).drew.more hh)).cell 2
  have hlen : ∀ w', Keeps nowhere w2.drew w' → (Builtin.len_ #[94] 3 #[.map (some b)]).run Try.prog w' = .ok (.int .i64 P) w' := fun w' hh => by
    have := (H2.out.same ((Keeps.refl nowhere w2).drew.more hh)).map.len (t := 94) (e := 41) Try.underlying94 3
    rw [ents_len] at this
    rw [HP.out]; exact this
  go_wp2_with fail
  refine wp_region_script [0, 1, 2, 3, 4, 5, 6, 7, 8, 9, 10, 11] [3, 7, 8] [.ps [0, 1, 2], .fs [3], .ps [4, 5, 6], .fs [7], .fs [8], .ps [9, 10, 11], .es [12] true, .es [13] false] (Keeps nowhere w2.drew) rfl (by kernel_rfl) ?_
  refine wpS_ps rfl fun K hK => ?_
  simp only [List.map_cons, List.map_nil, Option.getD_some, List.getElem?_toArray, List.getElem?_cons_zero, List.getElem?_cons_succ]
  iterate 3 (first | (apply quietO_cons _ rfl; (intro w' _; go_simp; rfl)) | apply quietO_skip rfl)
  refine hK _ ?_
  clear hK K
  simp only [Act.put, List.setIfInBounds_toArray, List.set_cons_zero, List.set_cons_succ]
  refine wpS_fs rfl (Keeps.refl _ _) fun K hK => ?_
  simp only [List.map_cons, List.map_nil, Option.getD_some, List.getElem?_toArray, List.getElem?_cons_zero, List.getElem?_cons_succ]
  iterate 1 (first | (apply quietO_cons _ rfl; (intro w' hs; have c_0 := hq2 w' hs; go_simp; rfl)) | apply quietO_skip rfl)
  refine hK _ ?_
  clear hK K
  simp only [Act.put, List.setIfInBounds_toArray, List.set_cons_zero, List.set_cons_succ]
  refine wpS_ps rfl fun K hK => ?_
  simp only [List.map_cons, List.map_nil, Option.getD_some, List.getElem?_toArray, List.getElem?_cons_zero, List.getElem?_cons_succ]
  iterate 3 (first | (apply quietO_cons _ rfl; (intro w' _; go_simp; rfl)) | apply quietO_skip rfl)
  refine hK _ ?_
  clear hK K
  simp only [Act.put, List.setIfInBounds_toArray, List.set_cons_zero, List.set_cons_succ]
  refine wpS_fs rfl (Keeps.refl _ _) fun K hK => ?_
  simp only [List.map_cons, List.map_nil, Option.getD_some, List.getElem?_toArray, List.getElem?_cons_zero, List.getElem?_cons_succ]
  iterate 1 (first | (apply quietO_cons _ rfl; (intro w' hs; have c_0 := hq2 w' hs; go_simp; rfl)) | apply quietO_skip rfl)
  refine hK _ ?_
  clear hK K
  simp only [Act.put, List.setIfInBounds_toArray, List.set_cons_zero, List.set_cons_succ]
  refine wpS_fs rfl (Keeps.refl _ _) fun K hK => ?_
  simp only [List.map_cons, List.map_nil, Option.getD_some, List.getElem?_toArray, List.getElem?_cons_zero, List.getElem?_cons_succ]
  iterate 1 (first | (apply quietO_cons _ rfl; (intro w' hs; have c_0 := hlen w' hs; go_simp; rfl)) | apply quietO_skip rfl)
  refine hK _ ?_
  clear hK K
  simp only [Act.put, List.setIfInBounds_toArray, List.set_cons_zero, List.set_cons_succ]
  refine wpS_ps rfl fun K hK => ?_
  simp only [List.map_cons, List.map_nil, Option.getD_some, List.getElem?_toArray, List.getElem?_cons_zero, List.getElem?_cons_succ]
  iterate 3 (first | (apply quietO_cons _ rfl; (intro w' _; go_simp; rfl)) | apply quietO_skip rfl)
  refine hK _ ?_
  clear hK K
  simp only [Act.put, List.setIfInBounds_toArray, List.set_cons_zero, List.set_cons_succ]
  clear hq2 hlen
  refine wpS_es rfl fun K hK => ?_
  have HK := Lib.hid hK
  clear hK
  simp only [List.map_cons, List.map_nil, Option.getD_some, List.getElem?_toArray, List.getElem?_cons_zero, List.getElem?_cons_succ]
  go_wp2_with fail
  have hkd := (Keeps.refl nowhere w2).drew
  refine (clB_any _ _ L w2.drew (Hr2.out.same hkd) (by have := HL.out; have := HnZ.out; omega)).mono ?_
  rintro e w3 ⟨v', rfl, hrow, hab, hk3⟩
  have hd3 := H2.out.same (hkd.more hk3)
  have hb3 := Hb2.out.keep (hkd.more hk3) (fun h => h)
  obtain ⟨w4, hput, hm4, hk4⟩ := hd3.map.put (t := 94) (e := 41) Try.underlying94 (x := ((P : Int), (x : Int))) ⟨wfI_nat P (by omega), wfI_nat x (by omega)⟩ v' (by rw [ents_len]; have := HP.out; show D.pend.length < 1000000; omega)
  have hrow4 := hrow.keep hk4 (fun b' e hs => by have e2 : b' = b := hs; subst e2; exact row_raw hrow (.inl rfl) (hd3.notRaw _ (.inr (.inl rfl))) e)
  rw [HP.out] at hm4
  have hd4 := hd3.more hk4 hm4 hrow4 (show L.length = D.size by rw [← HL.out, ← HZ.out]; exact HnZ.out) (by have := HN.out; show x < D.kept.length; omega)
  have hb4 := hb3.keep hk4 (fun e => Hqd.out (.inr (.inl e)))
  have hput2 : (Instr.mapUpdate 94 (.map (some b)) (.agg #[.int .i64 (P : Int), .int .i64 (x : Int)]) v').run Try.prog w3 = .ok () w4 := hput
  have hkz := (hkd.more hk3)
  have hk14 : Keeps (DS d b kv) w2 w4 := (hkz.mono (T := DS d b kv) (fun _ _ h => h.elim)).trans hk4 (fun _ _ e => .inr (.inl e))
  clear hput hm4 hrow4 hd3 hb3 hrow hab
  have Hd4 := Lib.hid hd4
  have Hb4 := Lib.hid hb4
  have Hkz := Lib.hid hkz
  have Hk4 := Lib.hid hk4
  have Hk14 := Lib.hid hk14
  clear hd4 hb4 hkz hk4 hk14
  go_wp2_with fail
  refine HK.out _ _ (fun _ => hk3) ?_
  clear HK K
  refine wpS_es rfl fun K hK => ?_
  have HK := Lib.hid hK
  clear hK
  simp only [List.map_cons, List.map_nil, Option.getD_some, List.getElem?_toArray, List.getElem?_cons_zero, List.getElem?_cons_succ]
  go_wp2_with fail
  clear hput2
  go_wp2_with fail
  refine HK.out _ _ (fun h => by cases h) ?_
  clear HK K
  refine wpS_nil ?_
  have c7 := Hd4.out.cell 7
  have f7 := Hd4.out.box.frozen 7
  simp at c7
  have hwr : IntKind.i64.wrap (((D.less).writes : Int) + 1) = ((D.less).writes : Int) + 1 := IntWalk.i64_in _ (by have := Hwb.out; have e9 : (D.less).writes = D.writes := rfl; omega)
  obtain ⟨w5, hw5⟩ : ∃ w5, w5 = w4.setCell ⟨d, 7, none⟩ (.int .i64 (((D.less).writes : Int) + 1)) := ⟨_, rfl⟩
  have hk5 : Keeps (only d) w4 w5 := by rw [hw5]; exact (Keeps.refl (only d) w4).setCell (p := ⟨d, 7, none⟩) (fun _ => rfl) _
  have hbd := Hd4.out.box.set_ 7 (.int .i64 (((D.less).writes : Int) + 1))
  rw [← hw5] at hbd
  have hd5 := Hd4.out.turn hk5 (off := (D.less).off) (armed := (D.less).armed) (left := (D.less).left) (kp' := kp) (keep := (D.less).keep) (writes := (D.less).writes + 1) (by simpa using hbd) (Hd4.out.keep.keep hk5 (fun b' e hs => by have e2 : b' = d := hs; subst e2; exact row_raw Hd4.out.keep (.inr rfl) (Hd4.out.notRaw _ (.inl rfl)) e))
  have hb5 := Hb4.out.keep hk5 (fun e => Hqd.out (.inl e))
  have c0 := hb5.cell 0
  have f0 := hb5.frozen 0
  simp at c0
  have hd6 := DAt.boxed hd5 hb5 rfl Hqd.out (.int .i64 0)
  have hb6 := (hb5.set_ 0 (.int .i64 0)).cell 0
  simp at hb6
  have hk6 : Keeps (DS d b kv) w (w5.setCell ⟨q, 0, none⟩ (.int .i64 0)) := ((HkW.out.trans Hk14.out (fun _ _ h => h)).trans hk5 (fun _ _ e => .inl e)).setCell (p := ⟨q, 0, none⟩) (fun hlt => by have := Hq.out; simp at hlt; omega) _
  clear hd5 hb5 hbd hk5
  rw [hw5] at c0 f0
  have Hd6 := Lib.hid hd6
  have Hk6 := Lib.hid hk6
  have Hw5 := Lib.hid hw5
  clear hd6 hk6 hw5
  go_wp2_with fail
  rw [← Hw5.out]
  refine leaves_cons (f := 52) (args := #[.pointer (some ⟨q, 0, none⟩)]) (by simp) (by simp [go_sem]) ?_
  refine (dcaught_idle q _).mono ?_
  rintro e u' w'' ⟨rfl, rfl, rfl⟩
  simp [Leaves, settle, results, Try.results23, go_sem, hb6]
  exact ⟨⟨_, Hd6.out⟩, Hk6.out⟩
set_option maxRecDepth 20000 in
set_option maxHeartbeats 4000000 in
theorem dwrite_cut (x : Nat) (v : Value) (g : Option Nat) (L : List UInt8) (h : DAt w d b kv kp ks vs D) (hr : recB.Rd w v g L) (ho : D.off = false) (ha : D.armed = true) (hl1 : D.left = 1) (hx : x < D.kept.length) (hlen : L.length = D.size) (hn : D.pend.length ≤ 90000) (hsz : D.size ≤ 1000000) (hxb : D.kept.length ≤ 1000000) (hwb : D.writes < 1000000000) :
    Calls Try.prog 23 #[.pointer (some ⟨d, 0, none⟩), .int .i64 x, v] w fun e w' => e = .returned (.int .i64 22) ∧ ∃ b', w.heap.size ≤ b' ∧ (∃ ks' kp', DAt w' d b' kv kp' ks' [] (D.less.cut D.keep)) ∧ Keeps (DS d b kv) w w' := by
  obtain ⟨q, hq⟩ : ∃ q, q = w.heap.size := ⟨_, rfl⟩
  obtain ⟨w1, hw1⟩ : ∃ w1, w1 = w.alloc (.cells #[.int .i64 0] 34) := ⟨_, rfl⟩
  have hk1 : Keeps nowhere w w1 := by rw [hw1]; exact (Keeps.refl nowhere w).alloc _
  have hbx : Blk w1 q 34 #[.int .i64 0] := by rw [hw1, hq]; exact box_new w 0
  have h1 := h.same hk1
  have hon := don_on h1 ho
  have hin := din_any (x : Int) h1
  have hr0 := hr
  obtain ⟨A, c, rfl, -⟩ := hr
  have z0 := h1.cell 0
  have z4 := h1.cell 4
  rw [ha] at z4
  simp at z0 z4
  have hqd : ¬ DS d b kv q := by
    rintro (e | e | e)
    · have := h.box.lt; omega
    · have := h.map.lt; omega
    · have := h.kept.lt q e; omega
  obtain ⟨N, hN⟩ : ∃ N, N = D.kept.length := ⟨_, rfl⟩
  obtain ⟨Z, hZ⟩ : ∃ Z, Z = D.size := ⟨_, rfl⟩
  obtain ⟨n, hL⟩ : ∃ n, n = L.length := ⟨_, rfl⟩
  obtain ⟨P, hP⟩ : ∃ P, P = D.pend.length := ⟨_, rfl⟩
  rw [← hN] at hin hx
  rw [← hZ] at z0 hlen
  rw [← hL] at hlen hr0 ⊢
  rw [← hP] at hn
  have hin2 : (decide ((0 : Int) ≤ (x : Int)) && decide ((x : Int) < (N : Int))) = true := by simp; omega
  rw [hin2] at hin
  have hnz : ((n : Int) != (Z : Int)) = false := by simp; omega
  have hr1 := hr0.same hk1
  have z5 := h1.cell 5
  have g5 := h1.box.frozen 5
  simp at z5
  obtain ⟨w2, hw2⟩ : ∃ w2, w2 = w1.setCell ⟨d, 5, none⟩ (.int .i64 (D.left - 1)) := ⟨_, rfl⟩
  have hk2 : Keeps (only d) w1 w2 := by rw [hw2]; exact (Keeps.refl (only d) w1).setCell (p := ⟨d, 5, none⟩) (fun _ => rfl) _
  have hbd := h1.box.set_ 5 (.int .i64 (D.left - 1))
  rw [← hw2] at hbd
  have h2 : DAt w2 d b kv kp ks vs D.less := h1.turn hk2 (off := D.off) (armed := D.armed) (left := D.left - 1) (kp' := kp) (keep := D.keep) (writes := D.writes) (by simpa using hbd) (h1.keep.keep hk2 (fun b' e hs => by have e2 : b' = d := hs; subst e2; exact row_raw h1.keep (.inr rfl) (h1.notRaw _ (.inl rfl)) e))
  have hb2 := hbx.keep hk2 (fun e => hqd (.inl e))
  have z5b := h2.cell 5
  have z6b := h2.cell 6
  simp only [DiskV.less] at z5b z6b
  simp at z5b z6b
  obtain ⟨F, hF⟩ : ∃ F, F = D.left - 1 := ⟨_, rfl⟩
  rw [← hF] at hw2 z5b
  rw [hw2] at z5b
  have hkW := (hk1.mono (T := DS d b kv) (fun _ _ h => h.elim)).trans hk2 (fun _ _ e => .inl e)
  obtain ⟨G, hG⟩ : ∃ G, G = D.left := ⟨_, rfl⟩
  rw [← hG] at z5
  have hwl : IntKind.i64.wrap (G - 1) = F := by rw [hG, hF]; exact IntWalk.i64_in _ (by omega)
  have hnZ := hlen
  clear hlen
  rw [← hZ] at hsz
  rw [← hN] at hxb
  have hF1 : F < 1 := by omega
  have hkg : ∀ k, kp.ownBlock = some k → ¬ DS d b kv k := fun k e hk => row_raw h2.keep (.inr rfl) (h2.notRaw k hk) e
  have hcut := dcut_any kp _ D.keep h2 h2.keep.rd hkg (show D.pend.length ≤ 90000 by omega)
  clear hbd
  rw [hw2] at z6b
  have H := Lib.hid h
  have H1 := Lib.hid h1
  have Hon := Lib.hid hon
  have Hw1 := Lib.hid hw1
  have Hq := Lib.hid hq
  have Hk1 := Lib.hid hk1
  have Hbx := Lib.hid hbx
  have HN := Lib.hid hN
  have HZ := Lib.hid hZ
  have HL := Lib.hid hL
  have HP := Lib.hid hP
  have Hin := Lib.hid hin
  have Hr0 := Lib.hid hr0
  have Hr1 := Lib.hid hr1
  have Hqd := Lib.hid hqd
  have HkW := Lib.hid hkW
  have HnZ := Lib.hid hnZ
  have Hb2 := Lib.hid hb2
  have Hwb := Lib.hid hwb
  have Hw2 := Lib.hid hw2
  have Hk2 := Lib.hid hk2
  have H2 := Lib.hid h2
  have HF := Lib.hid hF
  have HG := Lib.hid hG
  have Hcut := Lib.hid hcut
  clear h h1 hon hw1 hq hk1 hbx hN hZ hL hP hin hr0 hr1 hqd hkW hnZ hb2 hwb hw2 hk2 h2 hF hG hcut
  go_enter_defers Try.func23, Try.ntmps23
  go_upto_region 2 with fail
  rw [← Hw1.out]
  simp only [← Hq.out]
  go_wp2_with fail
  refine Hon.out.mono ?_
  rintro e w' ⟨rfl, rfl⟩
  go_wp2_with fail
  refine Hin.out.mono ?_
  rintro e w' ⟨rfl, rfl⟩
  go_wp2_with fail
  rw [← Hw2.out]
  refine Hcut.out.mono ?_
  rintro e w3 ⟨rfl, b', hb', ⟨ks', kp', hd⟩, hk3⟩
  have hb3 := Hb2.out.keep hk3 Hqd.out
  have c0 := hb3.cell 0
  have f0 := hb3.frozen 0
  simp at c0
  have hqd' : ¬ DS d b' kv q := by
    rintro (e | e | e)
    · exact Hqd.out (.inl e)
    · have := Hb2.out.lt; omega
    · exact Hqd.out (.inr (.inr e))
  have hd6 := DAt.boxed hd hb3 rfl hqd' (.int .i64 22)
  have hb6 := (hb3.set_ 0 (.int .i64 22)).cell 0
  simp at hb6
  have hk6 : Keeps (DS d b kv) w (w3.setCell ⟨q, 0, none⟩ (.int .i64 22)) := (HkW.out.trans hk3 (fun _ _ h => h)).setCell (p := ⟨q, 0, none⟩) (fun hlt => by have := Hq.out; simp at hlt; omega) _
  have hsz6 : w.heap.size ≤ b' := Nat.le_trans HkW.out.size hb'
  clear hd hb3 hk3
  have Hd6 := Lib.hid hd6
  have Hk6 := Lib.hid hk6
  have Hsz6 := Lib.hid hsz6
  clear hd6 hk6 hsz6
  go_wp2_with fail
  refine leaves_cons (f := 52) (args := #[.pointer (some ⟨q, 0, none⟩)]) (by simp) (by simp [go_sem]) ?_
  refine (dcaught_idle q _).mono ?_
  rintro e u' w'' ⟨rfl, rfl, rfl⟩
  simp [Leaves, settle, results, Try.results23, go_sem, hb6]
  exact ⟨b', Hsz6.out, ⟨ks', kp', Hd6.out⟩, Hk6.out⟩
end
end Go.Proofs.Ytnddaildicmneaa
