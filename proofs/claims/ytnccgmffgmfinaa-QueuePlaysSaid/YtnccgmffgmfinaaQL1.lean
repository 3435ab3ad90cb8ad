/-
  loggialaw25.ready: the places of the jobs that may be next.
-/
import Derived.Test.YtnccgmffgmfinaaQFlush
import Derived.Test.YtnccgmffgmfinaaAppend
namespace Go.Proofs.Ytnccgmffgmfinaa
open Go.RowKit Go.Shelf

theorem infoInt : (Try.prog.info? 3).map (fun i => (i.zero, i.size, i.bytes)) = some (some (.int .i64 0), 1, 8) := by kernel_rfl
def OwnI (w : World) (v : Value) (zs : List Nat) : Prop := w.ownsRow 0 3 1 v zs.length (zs.map fun (z : Nat) => Value.int .i64 (z : Int))
theorem OwnI.keep {w w' : World} {v : Value} {zs : List Nat} {S : Nat → Prop} (h : OwnI w v zs) (hk : Keeps S w w') (hs : ∀ b, v.ownBlock = some b → ¬ S b) : OwnI w' v zs := own_keep h hk hs
theorem OwnI.nil (w : World) : OwnI w (.slice none 0 0) [] := World.ownsRow_nil _ _ _ _
theorem OwnI.form {w : World} {v : Value} {zs : List Nat} (h : OwnI w v zs) : ∃ A c, v = .slice A zs.length c := by
  rcases h.2 with ⟨rfl, h0⟩ | ⟨g, cap, cur, rfl, _⟩
  · exact ⟨none, 0, by rw [h0]⟩
  · exact ⟨_, _, rfl⟩
theorem ints_one (zs : List Nat) : ∀ u ∈ zs.map (fun (z : Nat) => Value.int .i64 (z : Int)), u.oneCell' = true := by
  intro u hu
  obtain ⟨x, _, rfl⟩ := List.mem_map.1 hu
  rfl
/-- the places of those that may be next -/
def idxs (l : List J) (k : Nat) : List Nat := (List.range k).filter (rdy l)
theorem idxs_succ (l : List J) (k : Nat) : idxs l (k + 1) = idxs l k ++ (if rdy l k then [k] else []) := by
  unfold idxs
  rw [List.range_succ, List.filter_append]
  congr 1
  cases h : rdy l k <;> simp [h]
theorem idxs_len (l : List J) (k : Nat) : (idxs l k).length ≤ k := by
  unfold idxs
  refine Nat.le_trans (List.length_filter_le _ _) ?_
  simp
theorem idxs_ready (l : List J) : ∀ k, k ≤ l.length → readyTo l k = (idxs l k).filterMap fun i => l[i]?
  | 0, _ => rfl
  | k + 1, h => by
    rw [readyTo_succ, idxs_succ, List.filterMap_append, idxs_ready l k (by omega)]
    congr 1
    cases hr : rdy l k <;> cases hk : l[k]? <;> simp [hk]
theorem idxs_get {l : List J} {k i : Nat} (hi : (idxs l l.length)[k]? = some i) : (readyL l)[k]? = l[i]? ∧ i < l.length := by
  have hlt : ∀ x ∈ idxs l l.length, x < l.length := fun x hx => by simpa using (List.mem_filter.1 hx).1
  have hil := hlt i (List.mem_of_getElem? hi)
  refine ⟨?_, hil⟩
  have hm : readyL l = (idxs l l.length).map fun i => l.getD i noJ := by
    unfold readyL
    rw [idxs_ready l l.length (Nat.le_refl _)]
    generalize idxs l l.length = zs at hlt
    clear hi
    induction zs with
    | nil => rfl
    | cons z zs ih =>
      have hz := hlt z (by simp)
      rw [List.filterMap_cons, List.map_cons, ih (fun x hx => hlt x (by simp [hx])), List.getElem?_eq_getElem hz]
      simp [List.getD, hz]
  rw [hm, List.getElem?_map, hi]
  simp [List.getD, hil]
theorem ready_len (l : List J) : (readyL l).length = (idxs l l.length).length := by
  have h : ∀ k, k ≤ l.length → (readyTo l k).length = (idxs l k).length := by
    intro k
    induction k with
    | zero => intro _; rfl
    | succ k ih =>
      intro hk
      rw [readyTo_succ, idxs_succ, List.length_append, List.length_append, ih (by omega)]
      have : l[k]? = some l[k] := List.getElem?_eq_getElem (by omega)
      cases hr : rdy l k <;> simp [this]
  exact h l.length (Nat.le_refl _)
theorem take_any_succ {l : List J} {k : Nat} {x : J} (h : l[k]? = some x) (p : J → Bool) : (l.take (k + 1)).any p = ((l.take k).any p || p x) := by
  obtain ⟨hk, rfl⟩ := List.getElem?_eq_some_iff.1 h
  rw [List.take_succ_eq_append_getElem hk, List.any_append]; simp

theorem ints_rd (w : World) (i : Nat) : Rd (w.alloc (.cells #[.int .i64 i] 3)) (.slice (some ⟨w.heap.size, 0, none⟩) 1 1) (some w.heap.size) [.int .i64 i] :=
  Rd.full (heap_alloc_new w (.cells #[.int .i64 i] 3)) (by simp [maxLen])
def RetIdx25 (l : List J) (w : World) : Ending → World → Prop := fun e w' => ∃ v, e = .returned v ∧ OwnI w' v (idxs l l.length) ∧ Above w.heap.size v.ownBlock ∧ Keeps nowhere w w'

set_option maxRecDepth 8000 in
set_option maxHeartbeats 4000000 in
theorem lready_any (v : Value) (g : Option Nat) (l : List J) (w : World) (hr : JRd w v g l) (hl : l.length ≤ 512) : Calls Try.prog 24 #[v] w (RetIdx25 l w) := by
  have hr0 := hr
  obtain ⟨A, cap, rfl, h1, h2, hu, h3, -⟩ := hr
  obtain ⟨L, hL⟩ : ∃ L, L = l.length := ⟨_, rfl⟩
  rw [← hL] at hl ⊢
  obtain ⟨i0, hi, hz0, hz1, hz2⟩ := info_parts infoInt
  have Hr0 := Lib.hid hr0
  have H3 := Lib.hid h3
  have Hu := Lib.hid hu
  have HL := Lib.hid hL
  clear hr0 h3 hu hL
  go_enter Try.func24, Try.ntmps24
  go_wp2_with fail
  go_loopw [3, 4] (fun ov iv wr => ∃ i : Nat, iv = .int .i64 i ∧ i ≤ L ∧ OwnI wr ov (idxs l i) ∧ Above w.heap.size ov.ownBlock ∧ Keeps nowhere w wr) (fun _ iv _ => L - (intOf iv).toNat)
  case atStart => exact ⟨0, rfl, Nat.zero_le _, OwnI.nil _, Above.none _, Keeps.refl _ _⟩
  case round =>
    obtain ⟨i, rfl, hiL, hrow, hab, hk⟩ := hrel
    obtain ⟨Ao, co, rfl⟩ := hrow.form
    by_cases hlt : i < L
    · have hltI : (i : Int) < L := by omega
      have hi0 : (0 : Int) ≤ (i : Int) := by omega
      have hi1 : IntKind.i64.wrap ((i : Int) + 1) = i + 1 := IntWalk.i64_in _ (by omega)
      obtain ⟨b, off, rfl, hgb, hc⟩ := H3.out (by rw [← HL.out]; omega)
      obtain ⟨t, ht⟩ : ∃ t, l[i]? = some t := ⟨_, List.getElem?_eq_getElem (by rw [← HL.out]; exact hlt)⟩
      have hbw := Hu.out b hgb
      have hrdy := rdy_at ht
      obtain ⟨d0, -, -, d3⟩ := (hc i t ht).keep hk hbw (fun h => h)
      have hil := hlt
      have hrowk := hrow
      have hCc := hc
      obtain ⟨w5, hw5⟩ : ∃ w5, w5 = wr := ⟨_, rfl⟩
      have hkw5 := hk
      rw [← hw5] at hkw5 hrowk
      have Hw5 := Lib.hid hw5
      clear hw5
      have Hrow := Lib.hid hrow
      have Hab := Lib.hid hab
      have Hk := Lib.hid hk
      have Hrdy := Lib.hid hrdy
      have Ht := Lib.hid ht
      have Hgb := Lib.hid hgb
      have Hc := Lib.hid hc
      have HCc := Lib.hid hCc
      have Hrowk := Lib.hid hrowk
      have Hkw5 := Lib.hid hkw5
      clear hrow hab hk hrdy ht hgb hc hCc hrowk hkw5
      obtain ⟨ti, hti⟩ : ∃ ti, ti = t.s := ⟨_, rfl⟩
      rw [← hti] at d3
      go_wp2_with fail
      go_loopw [5, 6] (fun okv kv w2 => ∃ k : Nat, kv = .int .i64 k ∧ k ≤ i ∧ okv = .bool (!(l.take k).any (before t)) ∧ (ti = true → k = 0) ∧ Keeps nowhere w5 w2) (fun _ kv _ => i - (intOf kv).toNat)
      case atStart => exact ⟨0, rfl, Nat.zero_le _, by simp, fun _ => rfl, by rw [Hw5.out]; exact Keeps.refl _ _⟩
      case round =>
        obtain ⟨k, rfl, hki, rfl, hts, hk2⟩ := hrel
        clear Hw5
        have hk3 := Hkw5.out.more hk2
        have hk0 : (0 : Int) ≤ (k : Int) := by omega
        obtain ⟨d0', -, -, d3'⟩ := (Hc.out i t Ht.out).keep hk3 hbw (fun h => h)
        rw [← hti] at d3'
        clear d0 d3
        by_cases hkl : k < i ∧ ti = false
        · obtain ⟨hkl, htf⟩ := hkl
          subst htf
          have hkI : (k : Int) < i := by omega
          have hkL : (k : Int) < L := by omega
          have hk1 : IntKind.i64.wrap ((k : Int) + 1) = k + 1 := IntWalk.i64_in _ (by omega)
          obtain ⟨x, hx⟩ : ∃ x, l[k]? = some x := ⟨_, List.getElem?_eq_getElem (by rw [← HL.out]; omega)⟩
          obtain ⟨e0, -, -, e3⟩ := (Hc.out k x hx).keep hk3 hbw (fun h => h)
          have hsucc := take_any_succ hx (before t)
          have clx : ∀ w', w' = wr.drew → w'.cell? ⟨b, off + k * 4, none⟩ = some (.int .i64 x.c) := fun w' e => by rw [e]; exact e0
          have Hsucc := Lib.hid hsucc
          have Hx := Lib.hid hx
          have Hk2 := Lib.hid hk2
          have Hk3 := Lib.hid hk3
          have Hts := Lib.hid hts
          have Hti := Lib.hid hti
          clear hsucc hx hk2 hk3 hts hti
          cases hany : (l.take k).any (before t)
          · simp only [Bool.not_false]
            cases hxs : x.s
            · rw [hxs] at e3
              by_cases hc : x.c = t.c
              · have hq : (x.c != t.c) = false := by simp [hc]
                have hb : before t x = true := by unfold before; simp [hc, hxs]
                have Hc := Lib.hid hc
                have Hb := Lib.hid hb
                have Hxs := Lib.hid hxs
                clear hc hb hxs
                go_wp2_with fail
                refine wp_region_script [2, 8, 9, 10, 11, 12, 13, 14, 15, 16, 18, 19, 20, 21] [12] [.es [0, 1] false, .ps [2], .es [3, 4, 5, 6, 7] false, .ps [8, 9, 10, 11], .fs [12], .ps [13, 14, 15, 16], .es [17] true, .ps [18, 19, 20, 21]] (fun w' => w' = wr.drew) rfl (by kernel_rfl) ?_
                refine wpS_es rfl fun K hK => ?_
                have HK := Lib.hid hK
                clear hK
                simp only [List.map_cons, List.map_nil, Option.getD_some, List.getElem?_toArray, List.getElem?_cons_zero, List.getElem?_cons_succ]
                go_wp2_with fail
                refine HK.out _ _ (fun h => by cases h) ?_
                clear HK K
                refine wpS_ps rfl fun K hK => ?_
                simp only [List.map_cons, List.map_nil, Option.getD_some, List.getElem?_toArray, List.getElem?_cons_zero, List.getElem?_cons_succ]
                iterate 1 (first | (apply quietO_cons _ rfl; (intro w' _; go_simp; rfl)) | apply quietO_skip rfl)
                refine hK _ ?_
                clear hK K
                simp only [Act.put, List.setIfInBounds_toArray, List.set_cons_zero, List.set_cons_succ]
                refine wpS_es rfl fun K hK => ?_
                have HK := Lib.hid hK
                clear hK
                simp only [List.map_cons, List.map_nil, Option.getD_some, List.getElem?_toArray, List.getElem?_cons_zero, List.getElem?_cons_succ]
                go_wp2_with fail
                refine HK.out _ _ (fun h => by cases h) ?_
                clear HK K
                refine wpS_ps rfl fun K hK => ?_
                simp only [List.map_cons, List.map_nil, Option.getD_some, List.getElem?_toArray, List.getElem?_cons_zero, List.getElem?_cons_succ]
                iterate 4 (first | (apply quietO_cons _ rfl; (intro w' _; go_simp; rfl)) | apply quietO_skip rfl)
                refine hK _ ?_
                clear hK K
                simp only [Act.put, List.setIfInBounds_toArray, List.set_cons_zero, List.set_cons_succ]
                refine wpS_fs rfl (rfl) fun K hK => ?_
                simp only [List.map_cons, List.map_nil, Option.getD_some, List.getElem?_toArray, List.getElem?_cons_zero, List.getElem?_cons_succ]
                iterate 1 (first | (apply quietO_cons _ rfl; (intro w' hs; have c_0 := clx w' hs; go_simp; rfl)) | apply quietO_skip rfl)
                refine hK _ ?_
                clear hK K
                simp only [Act.put, List.setIfInBounds_toArray, List.set_cons_zero, List.set_cons_succ]
                clear clx
                refine wpS_ps rfl fun K hK => ?_
                simp only [List.map_cons, List.map_nil, Option.getD_some, List.getElem?_toArray, List.getElem?_cons_zero, List.getElem?_cons_succ]
                iterate 4 (first | (apply quietO_cons _ rfl; (intro w' _; go_simp; rfl)) | apply quietO_skip rfl)
                refine hK _ ?_
                clear hK K
                simp only [Act.put, List.setIfInBounds_toArray, List.set_cons_zero, List.set_cons_succ]
                refine wpS_es rfl fun K hK => ?_
                have HK := Lib.hid hK
                clear hK
                simp only [List.map_cons, List.map_nil, Option.getD_some, List.getElem?_toArray, List.getElem?_cons_zero, List.getElem?_cons_succ]
                go_wp2_with fail
                refine HK.out _ _ (fun _ => rfl) ?_
                clear HK K
                refine wpS_ps rfl fun K hK => ?_
                simp only [List.map_cons, List.map_nil, Option.getD_some, List.getElem?_toArray, List.getElem?_cons_zero, List.getElem?_cons_succ]
                iterate 4 (first | (apply quietO_cons _ rfl; (intro w' _; go_simp; rfl)) | apply quietO_skip rfl)
                refine hK _ ?_
                clear hK K
                simp only [Act.put, List.setIfInBounds_toArray, List.set_cons_zero, List.set_cons_succ]
                refine wpS_nil ?_
                go_wp2_with fail
                go_roundw
                case rel => exact ⟨k + 1, by simp, by omega, by rw [Hsucc.out]; rw [hany, Hb.out]; rfl, fun h => absurd h (by simp), Hk2.out.drew⟩
                case measure => simp [intOf]; omega
              · have hq : (x.c != t.c) = true := by simpa using hc
                have hb : before t x = false := by unfold before; simp [hc]
                have Hc := Lib.hid hc
                have Hb := Lib.hid hb
                have Hxs := Lib.hid hxs
                clear hc hb hxs
                go_wp2_with fail
                refine wp_region_script [2, 8, 9, 10, 11, 12, 13, 14, 15, 16, 18, 19, 20, 21] [12] [.es [0, 1] false, .ps [2], .es [3, 4, 5, 6, 7] false, .ps [8, 9, 10, 11], .fs [12], .ps [13, 14, 15, 16], .es [17] true, .ps [18, 19, 20, 21]] (fun w' => w' = wr.drew) rfl (by kernel_rfl) ?_
                refine wpS_es rfl fun K hK => ?_
                have HK := Lib.hid hK
                clear hK
                simp only [List.map_cons, List.map_nil, Option.getD_some, List.getElem?_toArray, List.getElem?_cons_zero, List.getElem?_cons_succ]
                go_wp2_with fail
                refine HK.out _ _ (fun h => by cases h) ?_
                clear HK K
                refine wpS_ps rfl fun K hK => ?_
                simp only [List.map_cons, List.map_nil, Option.getD_some, List.getElem?_toArray, List.getElem?_cons_zero, List.getElem?_cons_succ]
                iterate 1 (first | (apply quietO_cons _ rfl; (intro w' _; go_simp; rfl)) | apply quietO_skip rfl)
                refine hK _ ?_
                clear hK K
                simp only [Act.put, List.setIfInBounds_toArray, List.set_cons_zero, List.set_cons_succ]
                refine wpS_es rfl fun K hK => ?_
                have HK := Lib.hid hK
                clear hK
                simp only [List.map_cons, List.map_nil, Option.getD_some, List.getElem?_toArray, List.getElem?_cons_zero, List.getElem?_cons_succ]
                go_wp2_with fail
                refine HK.out _ _ (fun h => by cases h) ?_
                clear HK K
                refine wpS_ps rfl fun K hK => ?_
                simp only [List.map_cons, List.map_nil, Option.getD_some, List.getElem?_toArray, List.getElem?_cons_zero, List.getElem?_cons_succ]
                iterate 4 (first | (apply quietO_cons _ rfl; (intro w' _; go_simp; rfl)) | apply quietO_skip rfl)
                refine hK _ ?_
                clear hK K
                simp only [Act.put, List.setIfInBounds_toArray, List.set_cons_zero, List.set_cons_succ]
                refine wpS_fs rfl (rfl) fun K hK => ?_
                simp only [List.map_cons, List.map_nil, Option.getD_some, List.getElem?_toArray, List.getElem?_cons_zero, List.getElem?_cons_succ]
                iterate 1 (first | (apply quietO_cons _ rfl; (intro w' hs; have c_0 := clx w' hs; go_simp; rfl)) | apply quietO_skip rfl)
                refine hK _ ?_
                clear hK K
                simp only [Act.put, List.setIfInBounds_toArray, List.set_cons_zero, List.set_cons_succ]
                clear clx
                refine wpS_ps rfl fun K hK => ?_
                simp only [List.map_cons, List.map_nil, Option.getD_some, List.getElem?_toArray, List.getElem?_cons_zero, List.getElem?_cons_succ]
                iterate 4 (first | (apply quietO_cons _ rfl; (intro w' _; go_simp; rfl)) | apply quietO_skip rfl)
                refine hK _ ?_
                clear hK K
                simp only [Act.put, List.setIfInBounds_toArray, List.set_cons_zero, List.set_cons_succ]
                refine wpS_es rfl fun K hK => ?_
                have HK := Lib.hid hK
                clear hK
                simp only [List.map_cons, List.map_nil, Option.getD_some, List.getElem?_toArray, List.getElem?_cons_zero, List.getElem?_cons_succ]
                go_wp2_with fail
                refine HK.out _ _ (fun _ => rfl) ?_
                clear HK K
                refine wpS_ps rfl fun K hK => ?_
                simp only [List.map_cons, List.map_nil, Option.getD_some, List.getElem?_toArray, List.getElem?_cons_zero, List.getElem?_cons_succ]
                iterate 4 (first | (apply quietO_cons _ rfl; (intro w' _; go_simp; rfl)) | apply quietO_skip rfl)
                refine hK _ ?_
                clear hK K
                simp only [Act.put, List.setIfInBounds_toArray, List.set_cons_zero, List.set_cons_succ]
                refine wpS_nil ?_
                go_wp2_with fail
                go_roundw
                case rel => exact ⟨k + 1, by simp, by omega, by rw [Hsucc.out]; rw [hany, Hb.out]; rfl, fun h => absurd h (by simp), Hk2.out.drew⟩
                case measure => simp [intOf]; omega
            · rw [hxs] at e3
              have hb : before t x = false := by unfold before; simp [hxs]
              have Hb := Lib.hid hb
              have Hxs := Lib.hid hxs
              clear hb hxs
              go_wp2_with fail
              refine wp_region_script [2, 8, 9, 10, 11, 12, 13, 14, 15, 16, 18, 19, 20, 21] [12] [.es [0, 1] false, .ps [2], .es [3, 4, 5, 6, 7] false, .ps [8, 9, 10, 11], .fs [12], .ps [13, 14, 15, 16], .es [17] true, .ps [18, 19, 20, 21]] (fun w' => w' = wr.drew) rfl (by kernel_rfl) ?_
              refine wpS_es rfl fun K hK => ?_
              have HK := Lib.hid hK
              clear hK
              simp only [List.map_cons, List.map_nil, Option.getD_some, List.getElem?_toArray, List.getElem?_cons_zero, List.getElem?_cons_succ]
              go_wp2_with fail
              refine HK.out _ _ (fun h => by cases h) ?_
              clear HK K
              refine wpS_ps rfl fun K hK => ?_
              simp only [List.map_cons, List.map_nil, Option.getD_some, List.getElem?_toArray, List.getElem?_cons_zero, List.getElem?_cons_succ]
              iterate 1 (first | (apply quietO_cons _ rfl; (intro w' _; go_simp; rfl)) | apply quietO_skip rfl)
              refine hK _ ?_
              clear hK K
              simp only [Act.put, List.setIfInBounds_toArray, List.set_cons_zero, List.set_cons_succ]
              refine wpS_es rfl fun K hK => ?_
              have HK := Lib.hid hK
              clear hK
              simp only [List.map_cons, List.map_nil, Option.getD_some, List.getElem?_toArray, List.getElem?_cons_zero, List.getElem?_cons_succ]
              go_wp2_with fail
              refine HK.out _ _ (fun h => by cases h) ?_
              clear HK K
              refine wpS_ps rfl fun K hK => ?_
              simp only [List.map_cons, List.map_nil, Option.getD_some, List.getElem?_toArray, List.getElem?_cons_zero, List.getElem?_cons_succ]
              iterate 4 (first | (apply quietO_cons _ rfl; (intro w' _; go_simp; rfl)) | apply quietO_skip rfl)
              refine hK _ ?_
              clear hK K
              simp only [Act.put, List.setIfInBounds_toArray, List.set_cons_zero, List.set_cons_succ]
              refine wpS_fs rfl (rfl) fun K hK => ?_
              simp only [List.map_cons, List.map_nil, Option.getD_some, List.getElem?_toArray, List.getElem?_cons_zero, List.getElem?_cons_succ]
              iterate 1 (first | (apply quietO_cons _ rfl; (intro w' hs; have c_0 := clx w' hs; go_simp; rfl)) | apply quietO_skip rfl)
              refine hK _ ?_
              clear hK K
              simp only [Act.put, List.setIfInBounds_toArray, List.set_cons_zero, List.set_cons_succ]
              clear clx
              refine wpS_ps rfl fun K hK => ?_
              simp only [List.map_cons, List.map_nil, Option.getD_some, List.getElem?_toArray, List.getElem?_cons_zero, List.getElem?_cons_succ]
              iterate 4 (first | (apply quietO_cons _ rfl; (intro w' _; go_simp; rfl)) | apply quietO_skip rfl)
              refine hK _ ?_
              clear hK K
              simp only [Act.put, List.setIfInBounds_toArray, List.set_cons_zero, List.set_cons_succ]
              refine wpS_es rfl fun K hK => ?_
              have HK := Lib.hid hK
              clear hK
              simp only [List.map_cons, List.map_nil, Option.getD_some, List.getElem?_toArray, List.getElem?_cons_zero, List.getElem?_cons_succ]
              go_wp2_with fail
              refine HK.out _ _ (fun _ => rfl) ?_
              clear HK K
              refine wpS_ps rfl fun K hK => ?_
              simp only [List.map_cons, List.map_nil, Option.getD_some, List.getElem?_toArray, List.getElem?_cons_zero, List.getElem?_cons_succ]
              iterate 4 (first | (apply quietO_cons _ rfl; (intro w' _; go_simp; rfl)) | apply quietO_skip rfl)
              refine hK _ ?_
              clear hK K
              simp only [Act.put, List.setIfInBounds_toArray, List.set_cons_zero, List.set_cons_succ]
              refine wpS_nil ?_
              go_wp2_with fail
              go_roundw
              case rel => exact ⟨k + 1, by simp, by omega, by rw [Hsucc.out]; rw [hany, Hb.out]; rfl, fun h => absurd h (by simp), Hk2.out.drew⟩
              case measure => simp [intOf]; omega
          · simp only [Bool.not_true]
            go_wp2_with fail
            refine wp_region_script [2, 8, 9, 10, 11, 12, 13, 14, 15, 16, 18, 19, 20, 21] [12] [.es [0, 1] false, .ps [2], .es [3, 4, 5, 6, 7] false, .ps [8, 9, 10, 11], .fs [12], .ps [13, 14, 15, 16], .es [17] true, .ps [18, 19, 20, 21]] (fun w' => w' = wr.drew) rfl (by kernel_rfl) ?_
            refine wpS_es rfl fun K hK => ?_
            have HK := Lib.hid hK
            clear hK
            simp only [List.map_cons, List.map_nil, Option.getD_some, List.getElem?_toArray, List.getElem?_cons_zero, List.getElem?_cons_succ]
            go_wp2_with fail
            refine HK.out _ _ (fun h => by cases h) ?_
            clear HK K
            refine wpS_ps rfl fun K hK => ?_
            simp only [List.map_cons, List.map_nil, Option.getD_some, List.getElem?_toArray, List.getElem?_cons_zero, List.getElem?_cons_succ]
            iterate 1 (first | (apply quietO_cons _ rfl; (intro w' _; go_simp; rfl)) | apply quietO_skip rfl)
            refine hK _ ?_
            clear hK K
            simp only [Act.put, List.setIfInBounds_toArray, List.set_cons_zero, List.set_cons_succ]
            refine wpS_es rfl fun K hK => ?_
            have HK := Lib.hid hK
            clear hK
            simp only [List.map_cons, List.map_nil, Option.getD_some, List.getElem?_toArray, List.getElem?_cons_zero, List.getElem?_cons_succ]
            go_wp2_with fail
            refine HK.out _ _ (fun h => by cases h) ?_
            clear HK K
            refine wpS_ps rfl fun K hK => ?_
            simp only [List.map_cons, List.map_nil, Option.getD_some, List.getElem?_toArray, List.getElem?_cons_zero, List.getElem?_cons_succ]
            iterate 4 (first | (apply quietO_cons _ rfl; (intro w' _; go_simp; rfl)) | apply quietO_skip rfl)
            refine hK _ ?_
            clear hK K
            simp only [Act.put, List.setIfInBounds_toArray, List.set_cons_zero, List.set_cons_succ]
            refine wpS_fs rfl (rfl) fun K hK => ?_
            simp only [List.map_cons, List.map_nil, Option.getD_some, List.getElem?_toArray, List.getElem?_cons_zero, List.getElem?_cons_succ]
            iterate 1 (first | (apply quietO_cons _ rfl; (intro w' hs; have c_0 := clx w' hs; go_simp; rfl)) | apply quietO_skip rfl)
            refine hK _ ?_
            clear hK K
            simp only [Act.put, List.setIfInBounds_toArray, List.set_cons_zero, List.set_cons_succ]
            clear clx
            refine wpS_ps rfl fun K hK => ?_
            simp only [List.map_cons, List.map_nil, Option.getD_some, List.getElem?_toArray, List.getElem?_cons_zero, List.getElem?_cons_succ]
            iterate 4 (first | (apply quietO_cons _ rfl; (intro w' _; go_simp; rfl)) | apply quietO_skip rfl)
            refine hK _ ?_
            clear hK K
            simp only [Act.put, List.setIfInBounds_toArray, List.set_cons_zero, List.set_cons_succ]
            refine wpS_es rfl fun K hK => ?_
            have HK := Lib.hid hK
            clear hK
            simp only [List.map_cons, List.map_nil, Option.getD_some, List.getElem?_toArray, List.getElem?_cons_zero, List.getElem?_cons_succ]
            go_wp2_with fail
            refine HK.out _ _ (fun _ => rfl) ?_
            clear HK K
            refine wpS_ps rfl fun K hK => ?_
            simp only [List.map_cons, List.map_nil, Option.getD_some, List.getElem?_toArray, List.getElem?_cons_zero, List.getElem?_cons_succ]
            iterate 4 (first | (apply quietO_cons _ rfl; (intro w' _; go_simp; rfl)) | apply quietO_skip rfl)
            refine hK _ ?_
            clear hK K
            simp only [Act.put, List.setIfInBounds_toArray, List.set_cons_zero, List.set_cons_succ]
            refine wpS_nil ?_
            go_wp2_with fail
            go_roundw
            case rel => exact ⟨k + 1, by simp, by omega, by rw [Hsucc.out]; rw [hany]; rfl, fun h => absurd h (by simp), Hk2.out.drew⟩
            case measure => simp [intOf]; omega
        · have hout : (!(l.take k).any (before t)) = rdy l i := by
            rw [Hrdy.out]
            cases htv : ti with
            | true =>
              rw [htv] at hti
              rw [hts htv, ← hti]; simp
            | false =>
              rw [htv] at hti
              obtain rfl : k = i := by
                have : ¬ k < i := fun h => hkl ⟨h, htv⟩
                omega
              rw [← hti]; simp
          rw [hout]
          have hsucc := idxs_succ l i
          have hrow3 := Hrowk.out.keep hk2 (fun _ _ h => h)
          have hlen := idxs_len l i
          have hkc : ¬ (k : Int) < i ∨ ti = true := by
            cases htv : ti with
            | true => exact .inr rfl
            | false => exact .inl (fun h => hkl ⟨by omega, htv⟩)
          clear hout hts hkl
          by_cases hkl2 : k < i
          · have htv : ti = true := by
              rcases hkc with h | h
              · omega
              · exact h
            clear hkc
            subst htv
            have hkI : (k : Int) < i := by omega
            cases hr : rdy l i
            · rw [hr] at hsucc
              rw [if_neg (by simp), List.append_nil] at hsucc
              have Hk2 := Lib.hid hk2
              have Hk3 := Lib.hid hk3
              have Hsucc := Lib.hid hsucc
              have Hrow3 := Lib.hid hrow3
              have Hlen := Lib.hid hlen
              have Hti := Lib.hid hti
              have Hr := Lib.hid hr
              clear hk2 hk3 hsucc hrow3 hlen hti hr
              go_wp2_with fail
              go_roundw
              case rel => exact ⟨i + 1, by simp, by omega, by rw [Hsucc.out]; exact Hrow3.out, Hab.out, Hk3.out⟩
              case measure => simp [intOf]; omega
            · rw [hr] at hsucc
              rw [if_pos rfl] at hsucc
              have hrow4 := hrow3.keep ((Keeps.refl nowhere wr).alloc (.cells #[.int .i64 i] 3)) (fun _ _ h => h)
              have hrd4 := ints_rd wr i
              have Hk2 := Lib.hid hk2
              have Hk3 := Lib.hid hk3
              have Hsucc := Lib.hid hsucc
              have Hrow3 := Lib.hid hrow3
              have Hlen := Lib.hid hlen
              have Hti := Lib.hid hti
              have Hr := Lib.hid hr
              have Hrow4 := Lib.hid hrow4
              have Hrd4 := Lib.hid hrd4
              clear hk2 hk3 hsucc hrow3 hlen hti hr hrow4 hrd4
              go_wp2_with (at_builtin; go_must (refine wpList_append_rd _ rfl (.tmp 48) (.tmp 50) 49 rfl 0 3 i0 (.int .i64 0) 8 Try.underlying49 hi hz0 hz1 hz2 rfl (.slice Ao _ co) (idxs l i).length _ rfl Hrow4.out _ _ [.int .i64 i] rfl Hrd4.out (by intro u hu; rw [List.mem_singleton.1 hu]; rfl) (by have := Hlen.out; simp [maxLen]; omega) (by have := Hlen.out; simp; omega) (Nat.zero_le _) ?_))
              intro v4 w4 hown hgrow hfrom
              have hrow5 : OwnI w4 v4 (idxs l (i + 1)) := by
                unfold OwnI
                rw [Hsucc.out, List.length_append, List.map_append]
                exact hown
              have hk5 : Keeps nowhere w w4 := (Hk3.out.alloc _).grown hgrow (fun b hb hlt => absurd (Hab.out b hb) (by omega))
              have hab5 : Above w.heap.size v4.ownBlock := fun b hb => by
                rcases hfrom b hb with h | h
                · exact Hab.out b h
                · have := Hk3.out.size; omega
              obtain ⟨A5, c5, rfl⟩ := hrow5.form
              clear hown hgrow hfrom
              have Hrow5 := Lib.hid hrow5
              have Hk5 := Lib.hid hk5
              have Hab5 := Lib.hid hab5
              clear hrow5 hk5 hab5
              go_wp2_with fail
              go_roundw
              case rel => exact ⟨i + 1, by simp, by omega, Hrow5.out, Hab5.out, Hk5.out⟩
              case measure => simp [intOf]; omega
          · have hkI : ¬ (k : Int) < i := by omega
            clear hkc
            cases hr : rdy l i
            · rw [hr] at hsucc
              rw [if_neg (by simp), List.append_nil] at hsucc
              have Hk2 := Lib.hid hk2
              have Hk3 := Lib.hid hk3
              have Hsucc := Lib.hid hsucc
              have Hrow3 := Lib.hid hrow3
              have Hlen := Lib.hid hlen
              have Hti := Lib.hid hti
              have Hr := Lib.hid hr
              clear hk2 hk3 hsucc hrow3 hlen hti hr
              go_wp2_with fail
              go_roundw
              case rel => exact ⟨i + 1, by simp, by omega, by rw [Hsucc.out]; exact Hrow3.out, Hab.out, Hk3.out⟩
              case measure => simp [intOf]; omega
            · rw [hr] at hsucc
              rw [if_pos rfl] at hsucc
              have hrow4 := hrow3.keep ((Keeps.refl nowhere wr).alloc (.cells #[.int .i64 i] 3)) (fun _ _ h => h)
              have hrd4 := ints_rd wr i
              have Hk2 := Lib.hid hk2
              have Hk3 := Lib.hid hk3
              have Hsucc := Lib.hid hsucc
              have Hrow3 := Lib.hid hrow3
              have Hlen := Lib.hid hlen
              have Hti := Lib.hid hti
              have Hr := Lib.hid hr
              have Hrow4 := Lib.hid hrow4
              have Hrd4 := Lib.hid hrd4
              clear hk2 hk3 hsucc hrow3 hlen hti hr hrow4 hrd4
              go_wp2_with (at_builtin; go_must (refine wpList_append_rd _ rfl (.tmp 48) (.tmp 50) 49 rfl 0 3 i0 (.int .i64 0) 8 Try.underlying49 hi hz0 hz1 hz2 rfl (.slice Ao _ co) (idxs l i).length _ rfl Hrow4.out _ _ [.int .i64 i] rfl Hrd4.out (by intro u hu; rw [List.mem_singleton.1 hu]; rfl) (by have := Hlen.out; simp [maxLen]; omega) (by have := Hlen.out; simp; omega) (Nat.zero_le _) ?_))
              intro v4 w4 hown hgrow hfrom
              have hrow5 : OwnI w4 v4 (idxs l (i + 1)) := by
                unfold OwnI
                rw [Hsucc.out, List.length_append, List.map_append]
                exact hown
              have hk5 : Keeps nowhere w w4 := (Hk3.out.alloc _).grown hgrow (fun b hb hlt => absurd (Hab.out b hb) (by omega))
              have hab5 : Above w.heap.size v4.ownBlock := fun b hb => by
                rcases hfrom b hb with h | h
                · exact Hab.out b h
                · have := Hk3.out.size; omega
              obtain ⟨A5, c5, rfl⟩ := hrow5.form
              clear hown hgrow hfrom
              have Hrow5 := Lib.hid hrow5
              have Hk5 := Lib.hid hk5
              have Hab5 := Lib.hid hab5
              clear hrow5 hk5 hab5
              go_wp2_with fail
              go_roundw
              case rel => exact ⟨i + 1, by simp, by omega, Hrow5.out, Hab5.out, Hk5.out⟩
              case measure => simp [intOf]; omega
    · obtain rfl : i = L := by omega
      have Hrow := Lib.hid hrow
      have Hab := Lib.hid hab
      have Hk := Lib.hid hk
      clear hrow hab hk
      go_wp2_with fail
      go_ret
      exact ⟨_, rfl, by rw [← HL.out]; exact Hrow.out, Hab.out, Hk.out⟩
end Go.Proofs.Ytnccgmffgmfinaa
