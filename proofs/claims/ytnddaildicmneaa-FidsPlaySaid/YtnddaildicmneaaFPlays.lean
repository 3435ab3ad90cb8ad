/-
  loggialaw20.FidsPlay: the walk. (wip/gen_fplays.py wrote it.)
-/
import Derived.Test.YtnddaildicmneaaFPl1
import Derived.Test.YtnddaildicmneaaRecB
import Derived.Test.YtnddaildicmneaaTree
import Derived.Deep.CutBlock
import Derived.Deep.CutRange
import Derived.BigQuiet
namespace Go.Proofs.Ytnddaildicmneaa
open Go.RowKit Go.Maps

set_option maxRecDepth 20000 in
theorem fplays_long (A : Option Addr) (L c : Nat) (w : World) (h150 : 150 < L) (hlen : L ≤ 9223372036854775807) : Calls Try.prog 3 #[.slice A L c] w (YesF w) := by
  have h150' : (150 : Int) < L := by omega
  go_enter Try.func3, Try.ntmps3
  go_wp2_with fail
  refine (known20 _).mono ?_
  rintro e w0 ⟨rfl, hk0⟩
  have Hk0 := Lib.hid hk0
  clear hk0
  go_wp2_with fail
  go_ret
  exact ⟨rfl, Hk0.out⟩

set_option maxRecDepth 20000 in
set_option maxHeartbeats 16000000 in
theorem fplays_any (A : Option Addr) (l : List Act20) (c : Nat) (w : World) (hA : Act20Arr w A l) (h150 : ¬ 150 < l.length) : Calls Try.prog 3 #[.slice A l.length c] w (YesF w) := by
  obtain ⟨L, hL⟩ : ∃ L, L = l.length := ⟨_, rfl⟩
  rw [← hL] at h150 ⊢
  have h150' : ¬ (150 : Int) < L := by omega
  have HA := Lib.hid hA
  have HL := Lib.hid hL
  clear hA hL
  go_enter Try.func3, Try.ntmps3
  go_wp2_with fail
  refine (known20 _).mono ?_
  rintro e w0 ⟨rfl, hk0⟩
  go_wp2_with fail
  refine (own_fnew w _ hk0).mono ?_
  rintro e w1 ⟨p, b, rfl, h1, -, -, -⟩
  clear hk0
  unfold fp
  have hst : Stand20 w w1 p b [] (.slice none 0 0) (.slice none 0 0) := ⟨h1, RecT.Row.nil _ _, RecT.Row.nil _ _⟩
  have H1 := Lib.hid h1
  have Hst := Lib.hid hst
  clear h1 hst
  go_wp2_with fail
  go_loopw [4, 5, 6] (fun vi vr iv wr => ∃ (i : Nat) (m : List (Nat × FidV)), iv = .int .i64 i ∧ i ≤ L ∧ Stand20 w wr p b m vi vr ∧ m.length ≤ i) (fun _ _ iv _ => L - (intOf iv).toNat)
  case atStart => exact ⟨0, [], rfl, Nat.zero_le _, Hst.out, Nat.le_refl _⟩
  case round =>
    clear Hst H1
    obtain ⟨i, m, rfl, hi, hst, hml⟩ := hrel
    obtain ⟨A4, c4, rfl, hc4, hm4, -⟩ := hst.i.form
    obtain ⟨A5, c5, rfl, hc5, hm5, -⟩ := hst.r.form
    obtain ⟨N, hN⟩ : ∃ N, N = m.length := ⟨_, rfl⟩
    rw [List.length_map, ← hN] at hst hc4 hc5 ⊢
    rw [List.length_map, ← hN] at hst ⊢
    rw [← hN] at hml
    unfold maxLen at hm4 hm5
    by_cases hlt : i < L
    · have hltI : (i : Int) < L := by omega
      have hi0 : (0 : Int) ≤ (i : Int) := by omega
      have hi1 : IntKind.i64.wrap ((i : Int) + 1) = i + 1 := IntWalk.i64_in _ (by omega)
      obtain ⟨ba, off, rfl, hbw, hcells⟩ := HA.out (by rw [← HL.out]; omega)
      obtain ⟨⟨o, X, f⟩, ht⟩ : ∃ t, l[i]? = some t := ⟨l[i]'(by rw [← HL.out]; exact hlt), List.getElem?_eq_getElem _⟩
      obtain ⟨hok, hd⟩ := hcells i _ ht
      have hX : X < 4294967296 := hok
      have hdk : ∀ k, k < 8 → wr.cell? ⟨ba, off + i * 8 + k, none⟩ = (Act20.cs ⟨o, X, f⟩)[k]? := fun k hk => (hst.q.k.cell (p := ⟨ba, off + i * 8 + k, none⟩) hbw (fun h => h)).trans (hd k hk)
      have d0 := hdk 0 (by omega)
      have d1 := hdk 1 (by omega)
      have d2 := hdk 2 (by omega)
      have d3 := hdk 3 (by omega)
      have d4 := hdk 4 (by omega)
      have d5 := hdk 5 (by omega)
      have d6 := hdk 6 (by omega)
      have d7 := hdk 7 (by omega)
      obtain ⟨w5, hw5⟩ : ∃ w5, w5 = wr.alloc (.cells (Act20.cs ⟨o, X, f⟩).toArray 33) := ⟨_, rfl⟩
      have hk5 : Keeps nowhere wr w5 := by rw [hw5]; exact (Keeps.refl nowhere wr).alloc _
      obtain ⟨q, hq⟩ : ∃ q, q = wr.heap.size := ⟨_, rfl⟩
      have hbx : ActBox20 w5 q ⟨o, X, f⟩ := by rw [hw5, hq]; exact Blk.new _ _ _
      have hst5 := hst.same hk5
      obtain ⟨f1, f2, f3, f4, f5, f6⟩ := f
      simp only [Act20.cs, FidV.cs, List.getElem?_cons_zero, List.getElem?_cons_succ, Nat.add_zero] at d0 d1 d2 d3 d4 d5 d6 d7 hw5
      clear hcells hok hd hdk ht
      have Hst := Lib.hid hst
      have Hst5 := Lib.hid hst5
      have Hbx := Lib.hid hbx
      have HN := Lib.hid hN
      have Hw5 := Lib.hid hw5
      have Hq := Lib.hid hq
      have Hk5 := Lib.hid hk5
      clear hst hst5 hbx hN hw5 hq hk5
      go_upto_block 2 with fail
      rw [← Hw5.out]
      simp only [← Hq.out]
      clear d0 d1 d2 d3 d4 d5 d6 d7
      clear Hw5 Hst
      go_cut [8] from 31 to 45 (fun kv wx => ∃ k : Nat, kv = .int .i64 k ∧ PosOf m X k ∧ Keeps nowhere w5 wx)
      case first =>
        go_wp2_with fail
        go_loopw [8] (fun kv wx => ∃ k : Nat, kv = .int .i64 k ∧ k ≤ N ∧ Keeps nowhere w5 wx ∧ ∀ (j : Nat) (t : Nat × FidV), j < k → m[j]? = some t → t.1 < X) (fun kv _ => N - (intOf kv).toNat)
        case atStart => exact ⟨0, rfl, Nat.zero_le _, Keeps.refl _ _, fun j t hj => absurd hj (by omega)⟩
        case round =>
          obtain ⟨k, rfl, hkN, hkx, hlo⟩ := hrel
          have hk0 : (0 : Int) ≤ (k : Int) := by omega
          by_cases hkl : k < N
          · have hkI : (k : Int) < N := by omega
            have hkd : decide ((k : Int) < (N : Int)) = true := decide_eq_true hkI
            have hkd2 : decide (k < N) = true := decide_eq_true hkl
            have hk1 : IntKind.i64.wrap ((k : Int) + 1) = k + 1 := IntWalk.i64_in _ (by omega)
            obtain ⟨⟨y, g⟩, ht⟩ : ∃ t, m[k]? = some t := ⟨m[k]'(by rw [← HN.out]; exact hkl), List.getElem?_eq_getElem _⟩
            obtain ⟨b4, o4, rfl, hb4, hc4⟩ := row_at (Hst5.out.i.same hkx) (k := k) (t := y) (by rw [List.getElem?_map, ht]; rfl)
            have q8 : ∀ w', Keeps nowhere wr.drew w' → w'.cell? ⟨b4, o4 + k, none⟩ = some (.int .u32 y) := fun w' hs => by
              have := atU4 (hc4.keep ((Keeps.refl nowhere wr).drew.more hs) hb4 (fun h => h))
              rwa [show k * recU4.n = k from Nat.mul_one k] at this
            have q10 : ∀ w', Keeps nowhere wr.drew w' → w'.cell? ⟨q, 1, none⟩ = some (.int .u32 X) := fun w' hs =>
              ActBox20.cells (Blk.keep Hbx.out (hkx.drew.more hs) (fun h => h)) 1
            clear hc4
            by_cases hyX : y < X
            · have hyI : (y : Int) < X := by omega
              have hyd : decide ((y : Int) < (X : Int)) = true := decide_eq_true hyI
              have Hkx := Lib.hid hkx
              have Hlo := Lib.hid hlo
              have Ht := Lib.hid ht
              have HyX := Lib.hid hyX
              have Hkl := Lib.hid hkl
              clear hkx hlo ht hyX hkl
              go_wp2_with fail
              refine wp_region_script [0, 1, 2, 3, 4, 5, 6, 7, 8, 9, 10, 11, 12] [8, 10] [.ps [0, 1, 2], .ps [3, 4], .ps [5, 6, 7], .fs [8], .ps [9], .fs [10], .ps [11, 12]] (Keeps nowhere wr.drew) rfl (by kernel_rfl) ?_
              refine wpS_ps rfl fun K hK => ?_
              simp only [List.map_cons, List.map_nil, Option.getD_some, List.getElem?_toArray, List.getElem?_cons_zero, List.getElem?_cons_succ]
              iterate 3 (first | (apply quietO_cons _ rfl; (intro w' _; go_simp; rfl)) | apply quietO_skip rfl)
              refine hK _ ?_
              clear hK K
              simp only [Act.put, List.setIfInBounds_toArray, List.set_cons_zero, List.set_cons_succ]
              refine wpS_ps rfl fun K hK => ?_
              simp only [List.map_cons, List.map_nil, Option.getD_some, List.getElem?_toArray, List.getElem?_cons_zero, List.getElem?_cons_succ]
              iterate 2 (first | (apply quietO_cons _ rfl; (intro w' _; go_simp; rfl)) | apply quietO_skip rfl)
              refine hK _ ?_
              clear hK K
              simp only [Act.put, List.setIfInBounds_toArray, List.set_cons_zero, List.set_cons_succ]
              refine wpS_ps rfl fun K hK => ?_
              simp only [List.map_cons, List.map_nil, Option.getD_some, List.getElem?_toArray, List.getElem?_cons_zero, List.getElem?_cons_succ]
              iterate 3 (first | (apply quietO_cons _ rfl; (intro w' _; go_simp; rfl)) | apply quietO_skip rfl)
              refine hK _ ?_
              clear hK K
              simp only [Act.put, List.setIfInBounds_toArray, List.set_cons_zero, List.set_cons_succ]
              refine wpS_fs rfl (Keeps.refl _ _) fun K hK => ?_
              simp only [List.map_cons, List.map_nil, Option.getD_some, List.getElem?_toArray, List.getElem?_cons_zero, List.getElem?_cons_succ]
              iterate 1 (first | (apply quietO_cons _ rfl; (intro w' hs; have c_0 := q8 w' hs; go_simp; rfl)) | apply quietO_skip rfl)
              refine hK _ ?_
              clear hK K
              simp only [Act.put, List.setIfInBounds_toArray, List.set_cons_zero, List.set_cons_succ]
              refine wpS_ps rfl fun K hK => ?_
              simp only [List.map_cons, List.map_nil, Option.getD_some, List.getElem?_toArray, List.getElem?_cons_zero, List.getElem?_cons_succ]
              iterate 1 (first | (apply quietO_cons _ rfl; (intro w' _; go_simp; rfl)) | apply quietO_skip rfl)
              refine hK _ ?_
              clear hK K
              simp only [Act.put, List.setIfInBounds_toArray, List.set_cons_zero, List.set_cons_succ]
              refine wpS_fs rfl (Keeps.refl _ _) fun K hK => ?_
              simp only [List.map_cons, List.map_nil, Option.getD_some, List.getElem?_toArray, List.getElem?_cons_zero, List.getElem?_cons_succ]
              iterate 1 (first | (apply quietO_cons _ rfl; (intro w' hs; have c_0 := q10 w' hs; go_simp; rfl)) | apply quietO_skip rfl)
              refine hK _ ?_
              clear hK K
              simp only [Act.put, List.setIfInBounds_toArray, List.set_cons_zero, List.set_cons_succ]
              refine wpS_ps rfl fun K hK => ?_
              simp only [List.map_cons, List.map_nil, Option.getD_some, List.getElem?_toArray, List.getElem?_cons_zero, List.getElem?_cons_succ]
              iterate 2 (first | (apply quietO_cons _ rfl; (intro w' _; go_simp; rfl)) | apply quietO_skip rfl)
              refine hK _ ?_
              clear hK K
              simp only [Act.put, List.setIfInBounds_toArray, List.set_cons_zero, List.set_cons_succ]
              refine wpS_nil ?_
              clear q8 q10
              go_wp2_with fail
              go_roundw
              case rel => exact ⟨k + 1, by simp, by have := Hkl.out; omega, Hkx.out.drew, fun j t hj htj => by
                by_cases e : j = k
                · subst e; rw [Ht.out] at htj; injection htj with htj; rw [← htj]; exact HyX.out
                · exact Hlo.out j t (by omega) htj⟩
              case measure => have := Hkl.out; simp [intOf]; omega
            · have hyI : ¬ (y : Int) < X := by omega
              have hyd : decide ((y : Int) < (X : Int)) = false := decide_eq_false hyI
              have hyn : decide (y < X) = false := decide_eq_false hyX
              have Hkx := Lib.hid hkx
              have Hlo := Lib.hid hlo
              have Ht := Lib.hid ht
              have HyX := Lib.hid hyX
              have Hkl := Lib.hid hkl
              have HkN := Lib.hid hkN
              clear hkx hlo ht hyX hkl hkN
              go_wp2_with fail
              refine wp_region_script [0, 1, 2, 3, 4, 5, 6, 7, 8, 9, 10, 11, 12] [8, 10] [.ps [0, 1, 2], .ps [3, 4], .ps [5, 6, 7], .fs [8], .ps [9], .fs [10], .ps [11, 12]] (Keeps nowhere wr.drew) rfl (by kernel_rfl) ?_
              refine wpS_ps rfl fun K hK => ?_
              simp only [List.map_cons, List.map_nil, Option.getD_some, List.getElem?_toArray, List.getElem?_cons_zero, List.getElem?_cons_succ]
              iterate 3 (first | (apply quietO_cons _ rfl; (intro w' _; go_simp; rfl)) | apply quietO_skip rfl)
              refine hK _ ?_
              clear hK K
              simp only [Act.put, List.setIfInBounds_toArray, List.set_cons_zero, List.set_cons_succ]
              refine wpS_ps rfl fun K hK => ?_
              simp only [List.map_cons, List.map_nil, Option.getD_some, List.getElem?_toArray, List.getElem?_cons_zero, List.getElem?_cons_succ]
              iterate 2 (first | (apply quietO_cons _ rfl; (intro w' _; go_simp; rfl)) | apply quietO_skip rfl)
              refine hK _ ?_
              clear hK K
              simp only [Act.put, List.setIfInBounds_toArray, List.set_cons_zero, List.set_cons_succ]
              refine wpS_ps rfl fun K hK => ?_
              simp only [List.map_cons, List.map_nil, Option.getD_some, List.getElem?_toArray, List.getElem?_cons_zero, List.getElem?_cons_succ]
              iterate 3 (first | (apply quietO_cons _ rfl; (intro w' _; go_simp; rfl)) | apply quietO_skip rfl)
              refine hK _ ?_
              clear hK K
              simp only [Act.put, List.setIfInBounds_toArray, List.set_cons_zero, List.set_cons_succ]
              refine wpS_fs rfl (Keeps.refl _ _) fun K hK => ?_
              simp only [List.map_cons, List.map_nil, Option.getD_some, List.getElem?_toArray, List.getElem?_cons_zero, List.getElem?_cons_succ]
              iterate 1 (first | (apply quietO_cons _ rfl; (intro w' hs; have c_0 := q8 w' hs; go_simp; rfl)) | apply quietO_skip rfl)
              refine hK _ ?_
              clear hK K
              simp only [Act.put, List.setIfInBounds_toArray, List.set_cons_zero, List.set_cons_succ]
              refine wpS_ps rfl fun K hK => ?_
              simp only [List.map_cons, List.map_nil, Option.getD_some, List.getElem?_toArray, List.getElem?_cons_zero, List.getElem?_cons_succ]
              iterate 1 (first | (apply quietO_cons _ rfl; (intro w' _; go_simp; rfl)) | apply quietO_skip rfl)
              refine hK _ ?_
              clear hK K
              simp only [Act.put, List.setIfInBounds_toArray, List.set_cons_zero, List.set_cons_succ]
              refine wpS_fs rfl (Keeps.refl _ _) fun K hK => ?_
              simp only [List.map_cons, List.map_nil, Option.getD_some, List.getElem?_toArray, List.getElem?_cons_zero, List.getElem?_cons_succ]
              iterate 1 (first | (apply quietO_cons _ rfl; (intro w' hs; have c_0 := q10 w' hs; go_simp; rfl)) | apply quietO_skip rfl)
              refine hK _ ?_
              clear hK K
              simp only [Act.put, List.setIfInBounds_toArray, List.set_cons_zero, List.set_cons_succ]
              refine wpS_ps rfl fun K hK => ?_
              simp only [List.map_cons, List.map_nil, Option.getD_some, List.getElem?_toArray, List.getElem?_cons_zero, List.getElem?_cons_succ]
              iterate 2 (first | (apply quietO_cons _ rfl; (intro w' _; go_simp; rfl)) | apply quietO_skip rfl)
              refine hK _ ?_
              clear hK K
              simp only [Act.put, List.setIfInBounds_toArray, List.set_cons_zero, List.set_cons_succ]
              refine wpS_nil ?_
              clear q8 q10
              go_wp2_with fail
              go_meet
              case rel => exact ⟨k, rfl, ⟨by rw [← HN.out]; exact HkN.out, Hlo.out, fun t' ht' => by rw [Ht.out] at ht'; injection ht' with ht'; subst ht'; have := HyX.out; simp only; omega⟩, Hkx.out.drew⟩
          · obtain rfl : k = N := by omega
            have hkI : ¬ (k : Int) < k := by omega
            have hkd : decide ((k : Int) < (k : Int)) = false := decide_eq_false hkI
            have hkd2 : decide (k < k) = false := decide_eq_false hkl
            have Hkx := Lib.hid hkx
            have Hlo := Lib.hid hlo
            have HkN := Lib.hid hkN
            clear hkx hlo hkN
            go_wp2_with fail
            refine wp_region_script [0, 1, 2, 3, 4, 5, 6, 7, 8, 9, 10, 11, 12] [8, 10] [.ps [0, 1, 2], .ps [3, 4], .ps [5, 6, 7], .fs [8], .ps [9], .fs [10], .ps [11, 12]] (Keeps nowhere wr.drew) rfl (by kernel_rfl) ?_
            refine wpS_ps rfl fun K hK => ?_
            simp only [List.map_cons, List.map_nil, Option.getD_some, List.getElem?_toArray, List.getElem?_cons_zero, List.getElem?_cons_succ]
            iterate 3 (first | (apply quietO_cons _ rfl; (intro w' _; go_simp; rfl)) | apply quietO_skip rfl)
            refine hK _ ?_
            clear hK K
            simp only [Act.put, List.setIfInBounds_toArray, List.set_cons_zero, List.set_cons_succ]
            refine wpS_ps rfl fun K hK => ?_
            simp only [List.map_cons, List.map_nil, Option.getD_some, List.getElem?_toArray, List.getElem?_cons_zero, List.getElem?_cons_succ]
            iterate 2 (first | (apply quietO_cons _ rfl; (intro w' _; go_simp; rfl)) | apply quietO_skip rfl)
            refine hK _ ?_
            clear hK K
            simp only [Act.put, List.setIfInBounds_toArray, List.set_cons_zero, List.set_cons_succ]
            refine wpS_ps rfl fun K hK => ?_
            simp only [List.map_cons, List.map_nil, Option.getD_some, List.getElem?_toArray, List.getElem?_cons_zero, List.getElem?_cons_succ]
            iterate 3 (first | (apply quietO_cons _ rfl; (intro w' _; go_simp; rfl)) | apply quietO_skip rfl)
            refine hK _ ?_
            clear hK K
            simp only [Act.put, List.setIfInBounds_toArray, List.set_cons_zero, List.set_cons_succ]
            refine wpS_fs rfl (Keeps.refl _ _) fun K hK => ?_
            simp only [List.map_cons, List.map_nil, Option.getD_some, List.getElem?_toArray, List.getElem?_cons_zero, List.getElem?_cons_succ]
            iterate 1 (first | (apply quietO_cons _ rfl; (intro w' hs; go_simp; rfl)) | apply quietO_skip rfl)
            refine hK _ ?_
            clear hK K
            simp only [Act.put, List.setIfInBounds_toArray, List.set_cons_zero, List.set_cons_succ]
            refine wpS_ps rfl fun K hK => ?_
            simp only [List.map_cons, List.map_nil, Option.getD_some, List.getElem?_toArray, List.getElem?_cons_zero, List.getElem?_cons_succ]
            iterate 1 (first | (apply quietO_cons _ rfl; (intro w' _; go_simp; rfl)) | apply quietO_skip rfl)
            refine hK _ ?_
            clear hK K
            simp only [Act.put, List.setIfInBounds_toArray, List.set_cons_zero, List.set_cons_succ]
            refine wpS_fs rfl (Keeps.refl _ _) fun K hK => ?_
            simp only [List.map_cons, List.map_nil, Option.getD_some, List.getElem?_toArray, List.getElem?_cons_zero, List.getElem?_cons_succ]
            iterate 1 (first | (apply quietO_cons _ rfl; (intro w' hs; go_simp; rfl)) | apply quietO_skip rfl)
            refine hK _ ?_
            clear hK K
            simp only [Act.put, List.setIfInBounds_toArray, List.set_cons_zero, List.set_cons_succ]
            refine wpS_ps rfl fun K hK => ?_
            simp only [List.map_cons, List.map_nil, Option.getD_some, List.getElem?_toArray, List.getElem?_cons_zero, List.getElem?_cons_succ]
            iterate 2 (first | (apply quietO_cons _ rfl; (intro w' _; go_simp; rfl)) | apply quietO_skip rfl)
            refine hK _ ?_
            clear hK K
            simp only [Act.put, List.setIfInBounds_toArray, List.set_cons_zero, List.set_cons_succ]
            refine wpS_nil ?_
            go_wp2_with fail
            go_meet
            case rel => exact ⟨k, rfl, ⟨by rw [← HN.out]; exact Nat.le_refl _, Hlo.out, fun t' ht' => by
              have := (List.getElem?_eq_some_iff.1 ht').1
              rw [← HN.out] at this; omega⟩, Hkx.out.drew⟩
      case rest =>
        obtain ⟨k, rfl, hpos, hkc⟩ := hcut
        have hst6 := Hst5.out.same hkc
        have hbx6 := Blk.keep Hbx.out hkc (fun h => h)
        have hkw := Hk5.out.more hkc
        clear hkc Hst5 Hbx Hk5
        obtain ⟨TH, hTH⟩ : ∃ TH, TH = thereB m X k := ⟨_, rfl⟩
        have Hst6 := Lib.hid hst6
        have Hbx6 := Lib.hid hbx6
        have Hkw := Lib.hid hkw
        have Hpos := Lib.hid hpos
        have HTH := Lib.hid hTH
        clear hst6 hbx6 hkw hpos hTH
        go_upto_region 15 with fail
        go_cut [9] from 46 to 58 (fun tv wx => tv = .bool TH ∧ Keeps nowhere wc wx)
        case first =>
          have hk0 : (0 : Int) ≤ (k : Int) := by omega
          have q10 : ∀ w', Keeps nowhere wc.drew w' → w'.cell? ⟨q, 1, none⟩ = some (.int .u32 X) := fun w' hs =>
            ActBox20.cells (Blk.keep Hbx6.out ((Keeps.refl nowhere wc).drew.more hs) (fun h => h)) 1
          by_cases hkl : k < N
          · have hkI : (k : Int) < N := by omega
            have hkd : decide ((k : Int) < (N : Int)) = true := decide_eq_true hkI
            have hkd2 : decide (k < N) = true := decide_eq_true hkl
            obtain ⟨⟨y, g⟩, ht⟩ : ∃ t, m[k]? = some t := ⟨m[k]'(by rw [← HN.out]; exact hkl), List.getElem?_eq_getElem _⟩
            obtain ⟨b4, o4, rfl, hb4, hc4⟩ := row_at Hst6.out.i (k := k) (t := y) (by rw [List.getElem?_map, ht]; rfl)
            have q8 : ∀ w', Keeps nowhere wc.drew w' → w'.cell? ⟨b4, o4 + k, none⟩ = some (.int .u32 y) := fun w' hs => by
              have := atU4 (hc4.keep ((Keeps.refl nowhere wc).drew.more hs) hb4 (fun h => h))
              rwa [show k * recU4.n = k from Nat.mul_one k] at this
            clear hc4
            have hTy : TH = (y == X) := by rw [HTH.out, thereB, ht]
            have hTI : ((y : Int) == (X : Int)) = TH := by
              rw [hTy]
              by_cases h : y = X
              · subst h; simp
              · have h2 : ¬ (y : Int) = X := by omega
                rw [beq_false_of_ne h, beq_false_of_ne h2]
            have Ht := Lib.hid ht
            have HTy := Lib.hid hTy
            have Hkl := Lib.hid hkl
            clear ht hTy hkl
            go_wp2_with fail
            refine wp_region_script [0, 1, 2, 3, 4, 5, 6, 7, 8, 9, 10, 11, 12, 13] [8, 10] [.ps [0, 1, 2], .ps [3, 4], .ps [5, 6, 7], .fs [8], .ps [9], .fs [10], .ps [11, 12], .ps [13]] (Keeps nowhere wc.drew) rfl (by kernel_rfl) ?_
            refine wpS_ps rfl fun K hK => ?_
            simp only [List.map_cons, List.map_nil, Option.getD_some, List.getElem?_toArray, List.getElem?_cons_zero, List.getElem?_cons_succ]
            iterate 3 (first | (apply quietO_cons _ rfl; (intro w' _; go_simp; rfl)) | apply quietO_skip rfl)
            refine hK _ ?_
            clear hK K
            simp only [Act.put, List.setIfInBounds_toArray, List.set_cons_zero, List.set_cons_succ]
            refine wpS_ps rfl fun K hK => ?_
            simp only [List.map_cons, List.map_nil, Option.getD_some, List.getElem?_toArray, List.getElem?_cons_zero, List.getElem?_cons_succ]
            iterate 2 (first | (apply quietO_cons _ rfl; (intro w' _; go_simp; rfl)) | apply quietO_skip rfl)
            refine hK _ ?_
            clear hK K
            simp only [Act.put, List.setIfInBounds_toArray, List.set_cons_zero, List.set_cons_succ]
            refine wpS_ps rfl fun K hK => ?_
            simp only [List.map_cons, List.map_nil, Option.getD_some, List.getElem?_toArray, List.getElem?_cons_zero, List.getElem?_cons_succ]
            iterate 3 (first | (apply quietO_cons _ rfl; (intro w' _; go_simp; rfl)) | apply quietO_skip rfl)
            refine hK _ ?_
            clear hK K
            simp only [Act.put, List.setIfInBounds_toArray, List.set_cons_zero, List.set_cons_succ]
            refine wpS_fs rfl (Keeps.refl _ _) fun K hK => ?_
            simp only [List.map_cons, List.map_nil, Option.getD_some, List.getElem?_toArray, List.getElem?_cons_zero, List.getElem?_cons_succ]
            iterate 1 (first | (apply quietO_cons _ rfl; (intro w' hs; have c_0 := q8 w' hs; go_simp; rfl)) | apply quietO_skip rfl)
            refine hK _ ?_
            clear hK K
            simp only [Act.put, List.setIfInBounds_toArray, List.set_cons_zero, List.set_cons_succ]
            refine wpS_ps rfl fun K hK => ?_
            simp only [List.map_cons, List.map_nil, Option.getD_some, List.getElem?_toArray, List.getElem?_cons_zero, List.getElem?_cons_succ]
            iterate 1 (first | (apply quietO_cons _ rfl; (intro w' _; go_simp; rfl)) | apply quietO_skip rfl)
            refine hK _ ?_
            clear hK K
            simp only [Act.put, List.setIfInBounds_toArray, List.set_cons_zero, List.set_cons_succ]
            refine wpS_fs rfl (Keeps.refl _ _) fun K hK => ?_
            simp only [List.map_cons, List.map_nil, Option.getD_some, List.getElem?_toArray, List.getElem?_cons_zero, List.getElem?_cons_succ]
            iterate 1 (first | (apply quietO_cons _ rfl; (intro w' hs; have c_0 := q10 w' hs; go_simp; rfl)) | apply quietO_skip rfl)
            refine hK _ ?_
            clear hK K
            simp only [Act.put, List.setIfInBounds_toArray, List.set_cons_zero, List.set_cons_succ]
            refine wpS_ps rfl fun K hK => ?_
            simp only [List.map_cons, List.map_nil, Option.getD_some, List.getElem?_toArray, List.getElem?_cons_zero, List.getElem?_cons_succ]
            iterate 2 (first | (apply quietO_cons _ rfl; (intro w' _; go_simp; rfl)) | apply quietO_skip rfl)
            refine hK _ ?_
            clear hK K
            simp only [Act.put, List.setIfInBounds_toArray, List.set_cons_zero, List.set_cons_succ]
            refine wpS_ps rfl fun K hK => ?_
            simp only [List.map_cons, List.map_nil, Option.getD_some, List.getElem?_toArray, List.getElem?_cons_zero, List.getElem?_cons_succ]
            iterate 1 (first | (apply quietO_cons _ rfl; (intro w' _; go_simp; rfl)) | apply quietO_skip rfl)
            refine hK _ ?_
            clear hK K
            simp only [Act.put, List.setIfInBounds_toArray, List.set_cons_zero, List.set_cons_succ]
            refine wpS_nil ?_
            go_wp2_with fail
            go_meet
            case rel => exact ⟨rfl, (Keeps.refl nowhere wc).drew⟩
          · have hkI : ¬ (k : Int) < N := by omega
            have hkd : decide ((k : Int) < (N : Int)) = false := decide_eq_false hkI
            have hkd2 : decide (k < N) = false := decide_eq_false hkl
            have hT0 : TH = false := by rw [HTH.out, thereB, List.getElem?_eq_none (by rw [← HN.out]; omega)]
            subst hT0
            have Hkl := Lib.hid hkl
            clear hkl
            go_wp2_with fail
            refine wp_region_script [0, 1, 2, 3, 4, 5, 6, 7, 8, 9, 10, 11, 12, 13] [8, 10] [.ps [0, 1, 2], .ps [3, 4], .ps [5, 6, 7], .fs [8], .ps [9], .fs [10], .ps [11, 12], .ps [13]] (Keeps nowhere wc.drew) rfl (by kernel_rfl) ?_
            refine wpS_ps rfl fun K hK => ?_
            simp only [List.map_cons, List.map_nil, Option.getD_some, List.getElem?_toArray, List.getElem?_cons_zero, List.getElem?_cons_succ]
            iterate 3 (first | (apply quietO_cons _ rfl; (intro w' _; go_simp; rfl)) | apply quietO_skip rfl)
            refine hK _ ?_
            clear hK K
            simp only [Act.put, List.setIfInBounds_toArray, List.set_cons_zero, List.set_cons_succ]
            refine wpS_ps rfl fun K hK => ?_
            simp only [List.map_cons, List.map_nil, Option.getD_some, List.getElem?_toArray, List.getElem?_cons_zero, List.getElem?_cons_succ]
            iterate 2 (first | (apply quietO_cons _ rfl; (intro w' _; go_simp; rfl)) | apply quietO_skip rfl)
            refine hK _ ?_
            clear hK K
            simp only [Act.put, List.setIfInBounds_toArray, List.set_cons_zero, List.set_cons_succ]
            refine wpS_ps rfl fun K hK => ?_
            simp only [List.map_cons, List.map_nil, Option.getD_some, List.getElem?_toArray, List.getElem?_cons_zero, List.getElem?_cons_succ]
            iterate 3 (first | (apply quietO_cons _ rfl; (intro w' _; go_simp; rfl)) | apply quietO_skip rfl)
            refine hK _ ?_
            clear hK K
            simp only [Act.put, List.setIfInBounds_toArray, List.set_cons_zero, List.set_cons_succ]
            refine wpS_fs rfl (Keeps.refl _ _) fun K hK => ?_
            simp only [List.map_cons, List.map_nil, Option.getD_some, List.getElem?_toArray, List.getElem?_cons_zero, List.getElem?_cons_succ]
            iterate 1 (first | (apply quietO_cons _ rfl; (intro w' hs; go_simp; rfl)) | apply quietO_skip rfl)
            refine hK _ ?_
            clear hK K
            simp only [Act.put, List.setIfInBounds_toArray, List.set_cons_zero, List.set_cons_succ]
            refine wpS_ps rfl fun K hK => ?_
            simp only [List.map_cons, List.map_nil, Option.getD_some, List.getElem?_toArray, List.getElem?_cons_zero, List.getElem?_cons_succ]
            iterate 1 (first | (apply quietO_cons _ rfl; (intro w' _; go_simp; rfl)) | apply quietO_skip rfl)
            refine hK _ ?_
            clear hK K
            simp only [Act.put, List.setIfInBounds_toArray, List.set_cons_zero, List.set_cons_succ]
            refine wpS_fs rfl (Keeps.refl _ _) fun K hK => ?_
            simp only [List.map_cons, List.map_nil, Option.getD_some, List.getElem?_toArray, List.getElem?_cons_zero, List.getElem?_cons_succ]
            iterate 1 (first | (apply quietO_cons _ rfl; (intro w' hs; go_simp; rfl)) | apply quietO_skip rfl)
            refine hK _ ?_
            clear hK K
            simp only [Act.put, List.setIfInBounds_toArray, List.set_cons_zero, List.set_cons_succ]
            refine wpS_ps rfl fun K hK => ?_
            simp only [List.map_cons, List.map_nil, Option.getD_some, List.getElem?_toArray, List.getElem?_cons_zero, List.getElem?_cons_succ]
            iterate 2 (first | (apply quietO_cons _ rfl; (intro w' _; go_simp; rfl)) | apply quietO_skip rfl)
            refine hK _ ?_
            clear hK K
            simp only [Act.put, List.setIfInBounds_toArray, List.set_cons_zero, List.set_cons_succ]
            refine wpS_ps rfl fun K hK => ?_
            simp only [List.map_cons, List.map_nil, Option.getD_some, List.getElem?_toArray, List.getElem?_cons_zero, List.getElem?_cons_succ]
            iterate 1 (first | (apply quietO_cons _ rfl; (intro w' _; go_simp; rfl)) | apply quietO_skip rfl)
            refine hK _ ?_
            clear hK K
            simp only [Act.put, List.setIfInBounds_toArray, List.set_cons_zero, List.set_cons_succ]
            refine wpS_nil ?_
            go_wp2_with fail
            go_meet
            case rel => exact ⟨rfl, (Keeps.refl nowhere wc).drew⟩
        case rest =>
          obtain ⟨rfl, hkd⟩ := hcut
          have hst7 := Hst6.out.same hkd
          have hbx7 := Blk.keep Hbx6.out hkd (fun h => h)
          have a0 := ActBox20.cells hbx7 0
          have a1 := ActBox20.cells hbx7 1
          have a2 := ActBox20.cells hbx7 2
          have a3 := ActBox20.cells hbx7 3
          have a4 := ActBox20.cells hbx7 4
          have a5 := ActBox20.cells hbx7 5
          have a6 := ActBox20.cells hbx7 6
          have a7 := ActBox20.cells hbx7 7
          simp only [Act20.cs, FidV.cs, List.getElem?_cons_zero, List.getElem?_cons_succ] at a0 a1 a2 a3 a4 a5 a6 a7
          clear hkd Hst6 Hbx6 Hkw
          have Hst7 := Lib.hid hst7
          have Hbx7 := Lib.hid hbx7
          clear hst7 hbx7
          go_upto_block 4 with fail
          go_cut [4, 5, 10, 11, 12] from 61 to 213 (fun v4 v5 _ _ _ wx => ∃ m2, Stand20 w wx p b m2 v4 v5 ∧ m2.length ≤ i + 1)
          case first =>
            have htc := thereB_cases Hpos.out Hst7.out.q.t.2.2
            rw [← HTH.out] at htc
            by_cases o1 : o = 1
            · as_aux_lemma =>
                subst o1
                rcases htc with ⟨rfl, g, htk⟩ | ⟨rfl, htn, hln⟩
                · have hls : (look m X).isSome = true := by rw [look_at Hst7.out.q.t.2.2 htk]; rfl
                  by_cases hx : X = 4294967295
                  · have hE : putE m X = 1 := by rw [putE, if_pos hx]
                    have hxI : ((X : Int) == 4294967295) = true := by simp [hx]
                    have Hml := Lib.hid hml
                    have HX := Lib.hid hX
                    have Hx := Lib.hid hx
                    have Htk := Lib.hid htk
                    have Hls := Lib.hid hls
                    clear hml hX hx htk hls
                    have hLs : putL m X ⟨f1, f2, f3, f4, f5, f6⟩ = m := by rw [putL, if_neg (by rw [hE]; decide)]
                    go_wp2_with fail
                    refine (own_fput X ⟨f1, f2, f3, f4, f5, f6⟩ Hst7.out.q HX.out (by have := HN.out; have := Hml.out; omega)).mono ?_
                    rintro e w3 ⟨rfl, h3, hk3⟩
                    rw [hE]
                    rw [hLs] at h3
                    obtain ⟨hr3, hs3⟩ := Hst7.out.rows hk3
                    have hbx3 := Blk.keep Hbx7.out hk3 (ActBox20.ne Hbx7.out Hst7.out.q.t.2)
                    clear hk3 a0 a1 a2 a3 a4 a5 a6 a7 hE hLs
                    have H3 := Lib.hid h3
                    have Hr3 := Lib.hid hr3
                    have Hs3 := Lib.hid hs3
                    have Hbx3 := Lib.hid hbx3
                    clear h3 hr3 hs3 hbx3
                    go_wp2_with fail
                    go_meet
                    case rel => exact ⟨m, ⟨H3.out, Hr3.out, Hs3.out⟩, by have := Hml.out; rw [HN.out] at this; omega⟩
                  · have hE : putE m X = 9 := by rw [putE, if_neg hx, if_pos hls]
                    have hxI : ((X : Int) == 4294967295) = false := by have := HN.out; simp; omega
                    have Hml := Lib.hid hml
                    have HX := Lib.hid hX
                    have Hx := Lib.hid hx
                    have Htk := Lib.hid htk
                    have Hls := Lib.hid hls
                    clear hml hX hx htk hls
                    have hLs : putL m X ⟨f1, f2, f3, f4, f5, f6⟩ = m := by rw [putL, if_neg (by rw [hE]; decide)]
                    go_wp2_with fail
                    refine (own_fput X ⟨f1, f2, f3, f4, f5, f6⟩ Hst7.out.q HX.out (by have := HN.out; have := Hml.out; omega)).mono ?_
                    rintro e w3 ⟨rfl, h3, hk3⟩
                    rw [hE]
                    rw [hLs] at h3
                    obtain ⟨hr3, hs3⟩ := Hst7.out.rows hk3
                    have hbx3 := Blk.keep Hbx7.out hk3 (ActBox20.ne Hbx7.out Hst7.out.q.t.2)
                    clear hk3 a0 a1 a2 a3 a4 a5 a6 a7 hE hLs
                    have H3 := Lib.hid h3
                    have Hr3 := Lib.hid hr3
                    have Hs3 := Lib.hid hs3
                    have Hbx3 := Lib.hid hbx3
                    clear h3 hr3 hs3 hbx3
                    go_wp2_with fail
                    go_meet
                    case rel => exact ⟨m, ⟨H3.out, Hr3.out, Hs3.out⟩, by have := Hml.out; rw [HN.out] at this; omega⟩
                · have hls : ¬ (look m X).isSome = true := by rw [hln]; simp
                  by_cases hx : X = 4294967295
                  · have hE : putE m X = 1 := by rw [putE, if_pos hx]
                    have hxI : ((X : Int) == 4294967295) = true := by simp [hx]
                    have Hml := Lib.hid hml
                    have HX := Lib.hid hX
                    have Hx := Lib.hid hx
                    have Htn := Lib.hid htn
                    have Hls := Lib.hid hls
                    have Hln := Lib.hid hln
                    clear hml hX hx htn hls hln
                    have hLs : putL m X ⟨f1, f2, f3, f4, f5, f6⟩ = m := by rw [putL, if_neg (by rw [hE]; decide)]
                    go_wp2_with fail
                    refine (own_fput X ⟨f1, f2, f3, f4, f5, f6⟩ Hst7.out.q HX.out (by have := HN.out; have := Hml.out; omega)).mono ?_
                    rintro e w3 ⟨rfl, h3, hk3⟩
                    rw [hE]
                    rw [hLs] at h3
                    obtain ⟨hr3, hs3⟩ := Hst7.out.rows hk3
                    have hbx3 := Blk.keep Hbx7.out hk3 (ActBox20.ne Hbx7.out Hst7.out.q.t.2)
                    clear hk3 a0 a1 a2 a3 a4 a5 a6 a7 hE hLs
                    have H3 := Lib.hid h3
                    have Hr3 := Lib.hid hr3
                    have Hs3 := Lib.hid hs3
                    have Hbx3 := Lib.hid hbx3
                    clear h3 hr3 hs3 hbx3
                    go_wp2_with fail
                    go_meet
                    case rel => exact ⟨m, ⟨H3.out, Hr3.out, Hs3.out⟩, by have := Hml.out; rw [HN.out] at this; omega⟩
                  · have hxI : ((X : Int) == 4294967295) = false := by have := HN.out; simp; omega
                    by_cases h64 : 64 ≤ N
                    · have hE : putE m X = 14 := by rw [putE, if_neg hx, if_neg hls, if_pos (by rw [← HN.out]; exact h64)]
                      have h64I : (64 : Int) ≤ N := by omega
                      have Hml := Lib.hid hml
                      have HX := Lib.hid hX
                      have Hx := Lib.hid hx
                      have Htn := Lib.hid htn
                      have Hls := Lib.hid hls
                      have Hln := Lib.hid hln
                      clear hml hX hx htn hls hln
                      have hLs : putL m X ⟨f1, f2, f3, f4, f5, f6⟩ = m := by rw [putL, if_neg (by rw [hE]; decide)]
                      go_wp2_with fail
                      refine (own_fput X ⟨f1, f2, f3, f4, f5, f6⟩ Hst7.out.q HX.out (by have := HN.out; have := Hml.out; omega)).mono ?_
                      rintro e w3 ⟨rfl, h3, hk3⟩
                      rw [hE]
                      rw [hLs] at h3
                      obtain ⟨hr3, hs3⟩ := Hst7.out.rows hk3
                      have hbx3 := Blk.keep Hbx7.out hk3 (ActBox20.ne Hbx7.out Hst7.out.q.t.2)
                      clear hk3 a0 a1 a2 a3 a4 a5 a6 a7 hE hLs
                      have H3 := Lib.hid h3
                      have Hr3 := Lib.hid hr3
                      have Hs3 := Lib.hid hs3
                      have Hbx3 := Lib.hid hbx3
                      clear h3 hr3 hs3 hbx3
                      go_wp2_with fail
                      go_meet
                      case rel => exact ⟨m, ⟨H3.out, Hr3.out, Hs3.out⟩, by have := Hml.out; rw [HN.out] at this; omega⟩
                    · have hE : putE m X = 0 := by rw [putE, if_neg hx, if_neg hls, if_neg (by rw [← HN.out]; exact h64)]
                      have h64I : ¬ (64 : Int) ≤ N := by omega
                      have hLs : putL m X ⟨f1, f2, f3, f4, f5, f6⟩ = m.take k ++ (X, ⟨f1, f2, f3, f4, f5, f6⟩) :: m.drop k := by
                        rw [putL, if_pos hE]; exact (Hpos.out.put Hst7.out.q.t.2.2 htn _).2
                      have hkN : k ≤ N := by rw [HN.out]; exact Hpos.out.le
                      have hk0 : (0 : Int) ≤ (k : Int) := by omega
                      have hkNI : (k : Int) ≤ (N : Int) := by omega
                      have hkc4 : (k : Int) ≤ (c4 : Int) := by omega
                      have hkc5 : (k : Int) ≤ (c5 : Int) := by omega
                      have Hml := Lib.hid hml
                      have HX := Lib.hid hX
                      have Hx := Lib.hid hx
                      have Htn := Lib.hid htn
                      have Hls := Lib.hid hls
                      have Hln := Lib.hid hln
                      clear hml hX hx htn hls hln
                      go_wp2_with fail
                      refine (own_fput X ⟨f1, f2, f3, f4, f5, f6⟩ Hst7.out.q HX.out (by have := HN.out; have := Hml.out; omega)).mono ?_
                      rintro e wz ⟨rfl, h3, hk3⟩
                      rw [hE]
                      rw [hLs] at h3
                      obtain ⟨hr3, hs3⟩ := Hst7.out.rows hk3
                      have hbx3 := Blk.keep Hbx7.out hk3 (ActBox20.ne Hbx7.out Hst7.out.q.t.2)
                      clear hk3 a0 a1 a2 a3 a4 a5 a6 a7 hE hLs
                      have H3 := Lib.hid h3
                      have Hr3 := Lib.hid hr3
                      have Hs3 := Lib.hid hs3
                      have Hbx3 := Lib.hid hbx3
                      clear h3 hr3 hs3 hbx3
                      go_upto_region 28 with fail
                      go_cut [4] from 83 to 95 (fun v4 wx => recU4.Row wx v4 ((m.map (·.1)).take k ++ X :: (m.map (·.1)).drop k) ∧ Keeps nowhere wz wx)
                      case first =>
                        have q1 : ∀ w', Keeps nowhere wz.drew w' → w'.cell? ⟨q, 1, none⟩ = some (.int .u32 X) := fun w' hs => ActBox20.cells (Blk.keep (S := nowhere) Hbx3.out ((Keeps.refl nowhere wz).drew.more hs) (fun h => h)) 1
                        have kA : Keeps nowhere wz (wz.drew.alloc (.cells #[] 28)) := (Keeps.refl nowhere wz).drew.alloc _
                        have rowA : recU4.Row (wz.drew.alloc (.cells #[] 28)) (.slice (some ⟨wz.heap.size, 0, none⟩) 0 0) [] := RecT.Row.empty recU4 wz.drew
                        have rdA := (Hr3.out.rd.same kA).takeE k (by have := HN.out; simp; omega)
                        have kB : Keeps nowhere wz ((wz.drew.alloc (.cells #[] 28)).alloc (.cells #[.int .u32 X] 28)) := kA.alloc _
                        have rowB := rowA.same ((Keeps.refl nowhere (wz.drew.alloc (.cells #[] 28))).alloc (.cells #[.int .u32 X] 28))
                        have rdB := (Hr3.out.rd.same kB).takeE k (by have := HN.out; simp; omega)
                        have jB : recU4.Rd ((wz.drew.alloc (.cells #[] 28)).alloc (.cells #[.int .u32 X] 28)) (.slice (some ⟨wz.heap.size + 1, 0, none⟩) 1 1) (some (wz.heap.size + 1)) [X] := by
                          have := RecT.Rd.one recU4 (wz.drew.alloc (.cells #[] 28)) (X)
                          rw [show (wz.drew.alloc (.cells #[] 28)).heap.size = wz.heap.size + 1 by simp] at this
                          exact this
                        have kD : Keeps nowhere wz ((wz.drew.alloc (.cells #[.int .u32 X] 28)).alloc (.cells #[] 28)) := ((Keeps.refl nowhere wz).drew.alloc _).alloc _
                        have rowD : recU4.Row ((wz.drew.alloc (.cells #[.int .u32 X] 28)).alloc (.cells #[] 28)) (.slice (some ⟨wz.heap.size + 1, 0, none⟩) 0 0) [] := by
                          have := RecT.Row.empty recU4 (wz.drew.alloc (.cells #[.int .u32 X] 28))
                          rw [show (wz.drew.alloc (.cells #[.int .u32 X] 28)).heap.size = wz.heap.size + 1 by simp] at this
                          exact this
                        have rdD := (Hr3.out.rd.same kD).takeE k (by have := HN.out; simp; omega)
                        have jD : recU4.Rd ((wz.drew.alloc (.cells #[.int .u32 X] 28)).alloc (.cells #[] 28)) (.slice (some ⟨wz.heap.size, 0, none⟩) 1 1) (some wz.heap.size) [X] := (RecT.Rd.one recU4 wz.drew (X)).same ((Keeps.refl nowhere (wz.drew.alloc (.cells #[.int .u32 X] 28))).alloc (.cells #[] 28))
                        have hdrop := fun w' (hk : Keeps nowhere wz w') => (Hr3.out.rd.same hk).dropE k (by have := HN.out; simp; omega)
                        simp only [show k * recU4.n = k from Nat.mul_one k] at hdrop
                        obtain ⟨VA, hVA⟩ : ∃ VA, VA = (if c4 = k then A4 else Option.map (fun x => x.add k) A4) := ⟨_, rfl⟩
                        rw [← hVA] at hdrop
                        have hlb1 : ([] : List Nat).length + ((m.map Prod.fst).take k).length ≤ 100000000 := by have := HN.out; simp; omega
                        have hlb2 : ((m.map Prod.fst).take k).length + ([X] : List Nat).length ≤ 100000000 := by have := HN.out; simp; omega
                        have hlb3 : ((m.map Prod.fst).take k ++ [X]).length + ((m.map Prod.fst).drop k).length ≤ 100000000 := by have := HN.out; simp; omega
                        have KA := Lib.hid kA
                        have RowA := Lib.hid rowA
                        have RdA := Lib.hid rdA
                        have KB := Lib.hid kB
                        have RowB := Lib.hid rowB
                        have RdB := Lib.hid rdB
                        have JB := Lib.hid jB
                        have KD := Lib.hid kD
                        have RowD := Lib.hid rowD
                        have RdD := Lib.hid rdD
                        have JD := Lib.hid jD
                        have Hlb1 := Lib.hid hlb1
                        have Hlb2 := Lib.hid hlb2
                        have Hlb3 := Lib.hid hlb3
                        have Hdrop := Lib.hid hdrop
                        have HVA := Lib.hid hVA
                        clear kA rowA rdA kB rowB rdB jB kD rowD rdD jD hlb1 hlb2 hlb3 hdrop hVA
                        go_wp2_with fail
                        refine wp_region_tree [1, 2, 3, 5, 6, 9, 10, 11] [6] [.ps [1, 2, 3], .ps [5], .fs [6], .ps [9, 10, 11]] 6 #[false, true, true, true, false, true, true, false, false, true, true, true, false, false] (Keeps nowhere wz.drew) rfl (by kernel_rfl) (by kernel_rfl) ?_
                        refine wpQ_ps rfl fun K hK => ?_
                        simp only [List.map_cons, List.map_nil, Option.getD_some, List.getElem?_toArray, List.getElem?_cons_zero, List.getElem?_cons_succ]
                        iterate 3 (first | (apply quietO_cons _ rfl; (intro w' _; go_simp; rfl)) | apply quietO_skip rfl)
                        refine hK _ ?_
                        clear hK K
                        simp only [Act.put, List.setIfInBounds_toArray, List.set_cons_zero, List.set_cons_succ]
                        refine wpQ_ps rfl fun K hK => ?_
                        simp only [List.map_cons, List.map_nil, Option.getD_some, List.getElem?_toArray, List.getElem?_cons_zero, List.getElem?_cons_succ]
                        iterate 1 (first | (apply quietO_cons _ rfl; (intro w' _; go_simp; rfl)) | apply quietO_skip rfl)
                        refine hK _ ?_
                        clear hK K
                        simp only [Act.put, List.setIfInBounds_toArray, List.set_cons_zero, List.set_cons_succ]
                        refine wpQ_fs rfl (Keeps.refl _ _) fun K hK => ?_
                        simp only [List.map_cons, List.map_nil, Option.getD_some, List.getElem?_toArray, List.getElem?_cons_zero, List.getElem?_cons_succ]
                        iterate 1 (first | (apply quietO_cons _ rfl; (intro w' hs; have c_0 := q1 w' hs; go_simp; rfl)) | apply quietO_skip rfl)
                        refine hK _ ?_
                        clear hK K
                        simp only [Act.put, List.setIfInBounds_toArray, List.set_cons_zero, List.set_cons_succ]
                        refine wpQ_ps rfl fun K hK => ?_
                        simp only [List.map_cons, List.map_nil, Option.getD_some, List.getElem?_toArray, List.getElem?_cons_zero, List.getElem?_cons_succ]
                        iterate 3 (first | (apply quietO_cons _ rfl; (intro w' _; go_simp; rfl)) | apply quietO_skip rfl)
                        refine hK _ ?_
                        clear hK K
                        simp only [Act.put, List.setIfInBounds_toArray, List.set_cons_zero, List.set_cons_succ]
                        clear q1
                        rw [← HVA.out]
                        refine wpQ_nil ?_
                        refine tree_step [(0, true), (7, false)] (by kernel_rfl) (by simp) (by kernel_rfl) ?_
                        intro x hx
                        simp only [List.mem_cons, List.not_mem_nil, or_false] at hx
                        rcases hx with rfl | rfl
                        · refine tree_op rfl rfl fun K hK => ?_
                          have HK := Lib.hid hK
                          clear hK
                          simp only [Option.getD_some, List.getElem?_toArray, List.getElem?_cons_zero, List.getElem?_cons_succ]
                          go_wp2_with fail
                          refine HK.out _ _ (fun _ => ((Keeps.refl nowhere wz.drew).alloc _)) ?_
                          clear HK K
                          refine tree_step [(4, true), (7, false)] (by kernel_rfl) (by simp) (by kernel_rfl) ?_
                          intro x hx
                          simp only [List.mem_cons, List.not_mem_nil, or_false] at hx
                          rcases hx with rfl | rfl
                          · refine tree_op rfl rfl fun K hK => ?_
                            have HK := Lib.hid hK
                            clear hK
                            simp only [Option.getD_some, List.getElem?_toArray, List.getElem?_cons_zero, List.getElem?_cons_succ]
                            go_wp2_with (at_builtin; go_must (refine RecT.wpList_append Try.underlying26 infoU4 rfl (by decide) rfl (.tmp 83) (.tmp 86) rfl _ [] rfl RowA.out _ _ ((m.map Prod.fst).take k) rfl RdA.out Hlb1.out ?_))
                            intro v5 w5 hrow5 hk5 hf5
                            try rw [List.nil_append] at hrow5
                            have hk6 : Keeps nowhere wz w5 := KA.out.trans hk5 (fun b hb e => by simp [Value.ownBlock] at e; omega)
                            have hab5 : Above wz.heap.size v5.ownBlock := fun b hb => by
                              rcases hf5 b hb with h | h
                              · simp [Value.ownBlock] at h; omega
                              · have := KA.out.size; (try simp at this); (try simp at h); omega
                            have k7 := hk6.alloc (.cells #[.int .u32 X] 28)
                            have row6 := hrow5.same ((Keeps.refl nowhere w5).alloc (.cells #[.int .u32 X] 28))
                            have j6 : recU4.Rd (w5.alloc (.cells #[.int .u32 X] 28)) (.slice (some ⟨w5.heap.size, 0, none⟩) 1 1) (some w5.heap.size) [X] := RecT.Rd.one recU4 w5 (X)
                            have k6d : Keeps nowhere wz.drew w5 := ((Keeps.refl nowhere wz.drew).alloc _).trans hk5 (fun b hb e => by simp [Value.ownBlock] at e hb; omega)
                            clear hk5 hf5
                            have Hk6 := Lib.hid hk6
                            have Hab5 := Lib.hid hab5
                            have K7 := Lib.hid k7
                            have Row6 := Lib.hid row6
                            have J6 := Lib.hid j6
                            have Hrow5 := Lib.hid hrow5
                            clear hk6 hab5 k7 row6 j6 hrow5
                            go_wp2_with fail
                            refine HK.out _ _ (fun _ => k6d) ?_
                            clear HK K
                            refine tree_step [(7, false)] (by kernel_rfl) (by simp) (by kernel_rfl) ?_
                            intro x hx
                            obtain rfl := List.mem_singleton.1 hx
                            refine tree_op rfl rfl fun K hK => ?_
                            have HK := Lib.hid hK
                            clear hK
                            simp only [Option.getD_some, List.getElem?_toArray, List.getElem?_cons_zero, List.getElem?_cons_succ]
                            go_wp2_with fail
                            refine HK.out _ _ (fun h => by cases h) ?_
                            clear HK K
                            refine tree_step [(8, false)] (by kernel_rfl) (by simp) (by kernel_rfl) ?_
                            intro x hx
                            obtain rfl := List.mem_singleton.1 hx
                            refine tree_op rfl rfl fun K hK => ?_
                            have HK := Lib.hid hK
                            clear hK
                            simp only [Option.getD_some, List.getElem?_toArray, List.getElem?_cons_zero, List.getElem?_cons_succ]
                            go_wp2_with (at_builtin; go_must (refine RecT.wpList_append Try.underlying26 infoU4 rfl (by decide) rfl (.tmp 87) (.tmp 90) rfl _ ((m.map Prod.fst).take k) rfl Row6.out _ _ [X] rfl J6.out Hlb2.out ?_))
                            intro v7 w7 hrow7 hk7 hf7
                            have hk8 : Keeps nowhere wz w7 := K7.out.trans hk7 (fun b hb e => absurd (Hab5.out b e) (by omega))
                            have hab7 : Above wz.heap.size v7.ownBlock := fun b hb => by
                              rcases hf7 b hb with h | h
                              · exact Hab5.out b h
                              · have := K7.out.size; (try simp at this); (try simp at h); omega
                            have hrd := Hdrop.out w7 hk8
                            clear hk7 hf7
                            have Hrow7 := Lib.hid hrow7
                            have Hk8 := Lib.hid hk8
                            have Hab7 := Lib.hid hab7
                            have Hrd := Lib.hid hrd
                            clear hrow7 hk8 hab7 hrd
                            go_wp2_with fail
                            refine HK.out _ _ (fun h => by cases h) ?_
                            clear HK K
                            refine tree_step [(12, false)] (by kernel_rfl) (by simp) (by kernel_rfl) ?_
                            intro x hx
                            obtain rfl := List.mem_singleton.1 hx
                            refine tree_op rfl rfl fun K hK => ?_
                            have HK := Lib.hid hK
                            clear hK
                            simp only [Option.getD_some, List.getElem?_toArray, List.getElem?_cons_zero, List.getElem?_cons_succ]
                            go_wp2_with (at_builtin; go_must (refine RecT.wpList_append Try.underlying26 infoU4 rfl (by decide) rfl (.tmp 91) (.tmp 94) rfl _ ((m.map Prod.fst).take k ++ [X]) rfl Hrow7.out _ _ ((m.map Prod.fst).drop k) rfl Hrd.out Hlb3.out ?_))
                            intro v9 w9 hrow9 hk9 hf9
                            have hk10 : Keeps nowhere wz w9 := Hk8.out.trans hk9 (fun b hb e => absurd (Hab7.out b e) (by omega))
                            clear hk9 hf9
                            have Hrow9 := Lib.hid hrow9
                            have Hk10 := Lib.hid hk10
                            clear hrow9 hk10
                            go_wp2_with fail
                            refine HK.out _ _ (fun h => by cases h) ?_
                            clear HK K
                            refine tree_step [(13, false)] (by kernel_rfl) (by simp) (by kernel_rfl) ?_
                            intro x hx
                            obtain rfl := List.mem_singleton.1 hx
                            refine tree_op rfl rfl fun K hK => ?_
                            have HK := Lib.hid hK
                            clear hK
                            simp only [Option.getD_some, List.getElem?_toArray, List.getElem?_cons_zero, List.getElem?_cons_succ]
                            go_wp2_with fail
                            refine HK.out _ _ (fun h => by cases h) ?_
                            clear HK K
                            refine tree_fin (by kernel_rfl) ?_
                            go_wp2_with fail
                            go_meet
                            case rel => exact ⟨by first | exact Hrow9.out | (have := Hrow9.out; rwa [List.append_assoc] at this), Hk10.out⟩
                          · refine tree_op rfl rfl fun K hK => ?_
                            have HK := Lib.hid hK
                            clear hK
                            simp only [Option.getD_some, List.getElem?_toArray, List.getElem?_cons_zero, List.getElem?_cons_succ]
                            go_wp2_with fail
                            refine HK.out _ _ (fun h => by cases h) ?_
                            clear HK K
                            refine tree_step [(4, false)] (by kernel_rfl) (by simp) (by kernel_rfl) ?_
                            intro x hx
                            obtain rfl := List.mem_singleton.1 hx
                            refine tree_op rfl rfl fun K hK => ?_
                            have HK := Lib.hid hK
                            clear hK
                            simp only [Option.getD_some, List.getElem?_toArray, List.getElem?_cons_zero, List.getElem?_cons_succ]
                            go_wp2_with (at_builtin; go_must (refine RecT.wpList_append Try.underlying26 infoU4 rfl (by decide) rfl (.tmp 83) (.tmp 86) rfl _ [] rfl RowB.out _ _ ((m.map Prod.fst).take k) rfl RdB.out Hlb1.out ?_))
                            intro v5 w5 hrow5 hk5 hf5
                            try rw [List.nil_append] at hrow5
                            have hk6 : Keeps nowhere wz w5 := KB.out.trans hk5 (fun b hb e => by simp [Value.ownBlock] at e; omega)
                            have hab5 : Above wz.heap.size v5.ownBlock := fun b hb => by
                              rcases hf5 b hb with h | h
                              · simp [Value.ownBlock] at h; omega
                              · have := KB.out.size; (try simp at this); (try simp at h); omega
                            have j6 := JB.out.keep hk5 (fun b hb e => by simp [Value.ownBlock] at e hb; omega)
                            clear hk5 hf5
                            have Hk6 := Lib.hid hk6
                            have Hab5 := Lib.hid hab5
                            have J6 := Lib.hid j6
                            have Hrow5 := Lib.hid hrow5
                            clear hk6 hab5 j6 hrow5
                            go_wp2_with fail
                            refine HK.out _ _ (fun h => by cases h) ?_
                            clear HK K
                            refine tree_step [(8, false)] (by kernel_rfl) (by simp) (by kernel_rfl) ?_
                            intro x hx
                            obtain rfl := List.mem_singleton.1 hx
                            refine tree_op rfl rfl fun K hK => ?_
                            have HK := Lib.hid hK
                            clear hK
                            simp only [Option.getD_some, List.getElem?_toArray, List.getElem?_cons_zero, List.getElem?_cons_succ]
                            go_wp2_with (at_builtin; go_must (refine RecT.wpList_append Try.underlying26 infoU4 rfl (by decide) rfl (.tmp 87) (.tmp 90) rfl _ ((m.map Prod.fst).take k) rfl Hrow5.out _ _ [X] rfl J6.out Hlb2.out ?_))
                            intro v7 w7 hrow7 hk7 hf7
                            have hk8 : Keeps nowhere wz w7 := Hk6.out.trans hk7 (fun b hb e => absurd (Hab5.out b e) (by omega))
                            have hab7 : Above wz.heap.size v7.ownBlock := fun b hb => by
                              rcases hf7 b hb with h | h
                              · exact Hab5.out b h
                              · have := Hk6.out.size; (try simp at this); (try simp at h); omega
                            have hrd := Hdrop.out w7 hk8
                            clear hk7 hf7
                            have Hrow7 := Lib.hid hrow7
                            have Hk8 := Lib.hid hk8
                            have Hab7 := Lib.hid hab7
                            have Hrd := Lib.hid hrd
                            clear hrow7 hk8 hab7 hrd
                            go_wp2_with fail
                            refine HK.out _ _ (fun h => by cases h) ?_
                            clear HK K
                            refine tree_step [(12, false)] (by kernel_rfl) (by simp) (by kernel_rfl) ?_
                            intro x hx
                            obtain rfl := List.mem_singleton.1 hx
                            refine tree_op rfl rfl fun K hK => ?_
                            have HK := Lib.hid hK
                            clear hK
                            simp only [Option.getD_some, List.getElem?_toArray, List.getElem?_cons_zero, List.getElem?_cons_succ]
                            go_wp2_with (at_builtin; go_must (refine RecT.wpList_append Try.underlying26 infoU4 rfl (by decide) rfl (.tmp 91) (.tmp 94) rfl _ ((m.map Prod.fst).take k ++ [X]) rfl Hrow7.out _ _ ((m.map Prod.fst).drop k) rfl Hrd.out Hlb3.out ?_))
                            intro v9 w9 hrow9 hk9 hf9
                            have hk10 : Keeps nowhere wz w9 := Hk8.out.trans hk9 (fun b hb e => absurd (Hab7.out b e) (by omega))
                            clear hk9 hf9
                            have Hrow9 := Lib.hid hrow9
                            have Hk10 := Lib.hid hk10
                            clear hrow9 hk10
                            go_wp2_with fail
                            refine HK.out _ _ (fun h => by cases h) ?_
                            clear HK K
                            refine tree_step [(13, false)] (by kernel_rfl) (by simp) (by kernel_rfl) ?_
                            intro x hx
                            obtain rfl := List.mem_singleton.1 hx
                            refine tree_op rfl rfl fun K hK => ?_
                            have HK := Lib.hid hK
                            clear hK
                            simp only [Option.getD_some, List.getElem?_toArray, List.getElem?_cons_zero, List.getElem?_cons_succ]
                            go_wp2_with fail
                            refine HK.out _ _ (fun h => by cases h) ?_
                            clear HK K
                            refine tree_fin (by kernel_rfl) ?_
                            go_wp2_with fail
                            go_meet
                            case rel => exact ⟨by first | exact Hrow9.out | (have := Hrow9.out; rwa [List.append_assoc] at this), Hk10.out⟩
                        · refine tree_op rfl rfl fun K hK => ?_
                          have HK := Lib.hid hK
                          clear hK
                          simp only [Option.getD_some, List.getElem?_toArray, List.getElem?_cons_zero, List.getElem?_cons_succ]
                          go_wp2_with fail
                          refine HK.out _ _ (fun h => by cases h) ?_
                          clear HK K
                          refine tree_step [(0, false)] (by kernel_rfl) (by simp) (by kernel_rfl) ?_
                          intro x hx
                          obtain rfl := List.mem_singleton.1 hx
                          refine tree_op rfl rfl fun K hK => ?_
                          have HK := Lib.hid hK
                          clear hK
                          simp only [Option.getD_some, List.getElem?_toArray, List.getElem?_cons_zero, List.getElem?_cons_succ]
                          go_wp2_with fail
                          refine HK.out _ _ (fun h => by cases h) ?_
                          clear HK K
                          refine tree_step [(4, false)] (by kernel_rfl) (by simp) (by kernel_rfl) ?_
                          intro x hx
                          obtain rfl := List.mem_singleton.1 hx
                          refine tree_op rfl rfl fun K hK => ?_
                          have HK := Lib.hid hK
                          clear hK
                          simp only [Option.getD_some, List.getElem?_toArray, List.getElem?_cons_zero, List.getElem?_cons_succ]
                          go_wp2_with (at_builtin; go_must (refine RecT.wpList_append Try.underlying26 infoU4 rfl (by decide) rfl (.tmp 83) (.tmp 86) rfl _ [] rfl RowD.out _ _ ((m.map Prod.fst).take k) rfl RdD.out Hlb1.out ?_))
                          intro v5 w5 hrow5 hk5 hf5
                          try rw [List.nil_append] at hrow5
                          have hk6 : Keeps nowhere wz w5 := KD.out.trans hk5 (fun b hb e => by simp [Value.ownBlock] at e; omega)
                          have hab5 : Above wz.heap.size v5.ownBlock := fun b hb => by
                            rcases hf5 b hb with h | h
                            · simp [Value.ownBlock] at h; omega
                            · have := KD.out.size; (try simp at this); (try simp at h); omega
                          have j6 := JD.out.keep hk5 (fun b hb e => by simp [Value.ownBlock] at e hb; omega)
                          clear hk5 hf5
                          have Hk6 := Lib.hid hk6
                          have Hab5 := Lib.hid hab5
                          have J6 := Lib.hid j6
                          have Hrow5 := Lib.hid hrow5
                          clear hk6 hab5 j6 hrow5
                          go_wp2_with fail
                          refine HK.out _ _ (fun h => by cases h) ?_
                          clear HK K
                          refine tree_step [(8, false)] (by kernel_rfl) (by simp) (by kernel_rfl) ?_
                          intro x hx
                          obtain rfl := List.mem_singleton.1 hx
                          refine tree_op rfl rfl fun K hK => ?_
                          have HK := Lib.hid hK
                          clear hK
                          simp only [Option.getD_some, List.getElem?_toArray, List.getElem?_cons_zero, List.getElem?_cons_succ]
                          go_wp2_with (at_builtin; go_must (refine RecT.wpList_append Try.underlying26 infoU4 rfl (by decide) rfl (.tmp 87) (.tmp 90) rfl _ ((m.map Prod.fst).take k) rfl Hrow5.out _ _ [X] rfl J6.out Hlb2.out ?_))
                          intro v7 w7 hrow7 hk7 hf7
                          have hk8 : Keeps nowhere wz w7 := Hk6.out.trans hk7 (fun b hb e => absurd (Hab5.out b e) (by omega))
                          have hab7 : Above wz.heap.size v7.ownBlock := fun b hb => by
                            rcases hf7 b hb with h | h
                            · exact Hab5.out b h
                            · have := Hk6.out.size; (try simp at this); (try simp at h); omega
                          have hrd := Hdrop.out w7 hk8
                          clear hk7 hf7
                          have Hrow7 := Lib.hid hrow7
                          have Hk8 := Lib.hid hk8
                          have Hab7 := Lib.hid hab7
                          have Hrd := Lib.hid hrd
                          clear hrow7 hk8 hab7 hrd
                          go_wp2_with fail
                          refine HK.out _ _ (fun h => by cases h) ?_
                          clear HK K
                          refine tree_step [(12, false)] (by kernel_rfl) (by simp) (by kernel_rfl) ?_
                          intro x hx
                          obtain rfl := List.mem_singleton.1 hx
                          refine tree_op rfl rfl fun K hK => ?_
                          have HK := Lib.hid hK
                          clear hK
                          simp only [Option.getD_some, List.getElem?_toArray, List.getElem?_cons_zero, List.getElem?_cons_succ]
                          go_wp2_with (at_builtin; go_must (refine RecT.wpList_append Try.underlying26 infoU4 rfl (by decide) rfl (.tmp 91) (.tmp 94) rfl _ ((m.map Prod.fst).take k ++ [X]) rfl Hrow7.out _ _ ((m.map Prod.fst).drop k) rfl Hrd.out Hlb3.out ?_))
                          intro v9 w9 hrow9 hk9 hf9
                          have hk10 : Keeps nowhere wz w9 := Hk8.out.trans hk9 (fun b hb e => absurd (Hab7.out b e) (by omega))
                          clear hk9 hf9
                          have Hrow9 := Lib.hid hrow9
                          have Hk10 := Lib.hid hk10
                          clear hrow9 hk10
                          go_wp2_with fail
                          refine HK.out _ _ (fun h => by cases h) ?_
                          clear HK K
                          refine tree_step [(13, false)] (by kernel_rfl) (by simp) (by kernel_rfl) ?_
                          intro x hx
                          obtain rfl := List.mem_singleton.1 hx
                          refine tree_op rfl rfl fun K hK => ?_
                          have HK := Lib.hid hK
                          clear hK
                          simp only [Option.getD_some, List.getElem?_toArray, List.getElem?_cons_zero, List.getElem?_cons_succ]
                          go_wp2_with fail
                          refine HK.out _ _ (fun h => by cases h) ?_
                          clear HK K
                          refine tree_fin (by kernel_rfl) ?_
                          go_wp2_with fail
                          go_meet
                          case rel => exact ⟨by first | exact Hrow9.out | (have := Hrow9.out; rwa [List.append_assoc] at this), Hk10.out⟩
                      case rest =>
                        obtain ⟨hr4, hk4⟩ := hcut
                        have hs4 := Hs3.out.same hk4
                        have hbx4 := Blk.keep Hbx3.out hk4 (fun h => h)
                        have h4 := H3.out.same hk4
                        obtain ⟨A8, c8, rfl, -⟩ := hr4.form
                        obtain ⟨N8, hN8⟩ : ∃ N8, N8 = ((m.map (·.1)).take k ++ X :: (m.map (·.1)).drop k).length := ⟨_, rfl⟩
                        rw [← hN8] at hr4 ⊢
                        clear hk4
                        have Hr4 := Lib.hid hr4
                        have Hs4 := Lib.hid hs4
                        have Hbx4 := Lib.hid hbx4
                        have H4 := Lib.hid h4
                        have HN8 := Lib.hid hN8
                        clear hr4 hs4 hbx4 h4 hN8
                        go_upto_region 29 with fail
                        have qc : ∀ k w', Keeps nowhere wc.drew w' → w'.cell? ⟨q, k, none⟩ = (Act20.cs ⟨1, X, ⟨f1, f2, f3, f4, f5, f6⟩⟩)[k]? := fun k w' hs => ActBox20.cells (Blk.keep (S := nowhere) Hbx4.out ((Keeps.refl nowhere wc).drew.more hs) (fun h => h)) k
                        have q2 := qc 2
                        have q3 := qc 3
                        have q4 := qc 4
                        have q5 := qc 5
                        have q6 := qc 6
                        have q7 := qc 7
                        simp only [Act20.cs, FidV.cs, List.getElem?_cons_zero, List.getElem?_cons_succ] at q2 q3 q4 q5 q6 q7
                        clear qc
                        have kA : Keeps nowhere wc (wc.drew.alloc (.cells #[] 31)) := (Keeps.refl nowhere wc).drew.alloc _
                        have rowA : recF.Row (wc.drew.alloc (.cells #[] 31)) (.slice (some ⟨wc.heap.size, 0, none⟩) 0 0) [] := RecT.Row.empty recF wc.drew
                        have rdA := (Hs4.out.rd.same kA).takeE k (by have := HN.out; simp; omega)
                        have kB : Keeps nowhere wc ((wc.drew.alloc (.cells #[] 31)).alloc (.cells (recF.cs (⟨f1, f2, f3, f4, f5, f6⟩ : FidV)).toArray recF.t)) := kA.alloc _
                        have rowB := rowA.same ((Keeps.refl nowhere (wc.drew.alloc (.cells #[] 31))).alloc (.cells (recF.cs (⟨f1, f2, f3, f4, f5, f6⟩ : FidV)).toArray recF.t))
                        have rdB := (Hs4.out.rd.same kB).takeE k (by have := HN.out; simp; omega)
                        have jB : recF.Rd ((wc.drew.alloc (.cells #[] 31)).alloc (.cells (recF.cs (⟨f1, f2, f3, f4, f5, f6⟩ : FidV)).toArray recF.t)) (.slice (some ⟨wc.heap.size + 1, 0, none⟩) 1 1) (some (wc.heap.size + 1)) [(⟨f1, f2, f3, f4, f5, f6⟩ : FidV)] := by
                          have := RecT.Rd.one recF (wc.drew.alloc (.cells #[] 31)) ((⟨f1, f2, f3, f4, f5, f6⟩ : FidV))
                          rw [show (wc.drew.alloc (.cells #[] 31)).heap.size = wc.heap.size + 1 by simp] at this
                          exact this
                        have kD : Keeps nowhere wc ((wc.drew.alloc (.cells (recF.cs (⟨f1, f2, f3, f4, f5, f6⟩ : FidV)).toArray recF.t)).alloc (.cells #[] 31)) := ((Keeps.refl nowhere wc).drew.alloc _).alloc _
                        have rowD : recF.Row ((wc.drew.alloc (.cells (recF.cs (⟨f1, f2, f3, f4, f5, f6⟩ : FidV)).toArray recF.t)).alloc (.cells #[] 31)) (.slice (some ⟨wc.heap.size + 1, 0, none⟩) 0 0) [] := by
                          have := RecT.Row.empty recF (wc.drew.alloc (.cells (recF.cs (⟨f1, f2, f3, f4, f5, f6⟩ : FidV)).toArray recF.t))
                          rw [show (wc.drew.alloc (.cells (recF.cs (⟨f1, f2, f3, f4, f5, f6⟩ : FidV)).toArray recF.t)).heap.size = wc.heap.size + 1 by simp] at this
                          exact this
                        have rdD := (Hs4.out.rd.same kD).takeE k (by have := HN.out; simp; omega)
                        have jD : recF.Rd ((wc.drew.alloc (.cells (recF.cs (⟨f1, f2, f3, f4, f5, f6⟩ : FidV)).toArray recF.t)).alloc (.cells #[] 31)) (.slice (some ⟨wc.heap.size, 0, none⟩) 1 1) (some wc.heap.size) [(⟨f1, f2, f3, f4, f5, f6⟩ : FidV)] := (RecT.Rd.one recF wc.drew ((⟨f1, f2, f3, f4, f5, f6⟩ : FidV))).same ((Keeps.refl nowhere (wc.drew.alloc (.cells (recF.cs (⟨f1, f2, f3, f4, f5, f6⟩ : FidV)).toArray recF.t))).alloc (.cells #[] 31))
                        have hdrop := fun w' (hk : Keeps nowhere wc w') => (Hs4.out.rd.same hk).dropE k (by have := HN.out; simp; omega)
                        simp only [show k * recF.n = k * 6 from rfl] at hdrop
                        obtain ⟨VA, hVA⟩ : ∃ VA, VA = (if c5 = k then A5 else Option.map (fun x => x.add (k * 6)) A5) := ⟨_, rfl⟩
                        rw [← hVA] at hdrop
                        have hlb1 : ([] : List FidV).length + ((m.map Prod.snd).take k).length ≤ 100000000 := by have := HN.out; simp; omega
                        have hlb2 : ((m.map Prod.snd).take k).length + ([(⟨f1, f2, f3, f4, f5, f6⟩ : FidV)] : List FidV).length ≤ 100000000 := by have := HN.out; simp; omega
                        have hlb3 : ((m.map Prod.snd).take k ++ [(⟨f1, f2, f3, f4, f5, f6⟩ : FidV)]).length + ((m.map Prod.snd).drop k).length ≤ 100000000 := by have := HN.out; simp; omega
                        have KA := Lib.hid kA
                        have RowA := Lib.hid rowA
                        have RdA := Lib.hid rdA
                        have KB := Lib.hid kB
                        have RowB := Lib.hid rowB
                        have RdB := Lib.hid rdB
                        have JB := Lib.hid jB
                        have KD := Lib.hid kD
                        have RowD := Lib.hid rowD
                        have RdD := Lib.hid rdD
                        have JD := Lib.hid jD
                        have Hlb1 := Lib.hid hlb1
                        have Hlb2 := Lib.hid hlb2
                        have Hlb3 := Lib.hid hlb3
                        have Hdrop := Lib.hid hdrop
                        have HVA := Lib.hid hVA
                        clear kA rowA rdA kB rowB rdB jB kD rowD rdD jD hlb1 hlb2 hlb3 hdrop hVA
                        go_wp2_with fail
                        refine wp_region_tree [1, 2, 3, 5, 6, 9, 10, 11] [6] [.ps [1, 2, 3], .ps [5], .fs [6], .ps [9, 10, 11]] 6 #[false, true, true, true, false, true, true, false, false, true, true, true, false, false] (Keeps nowhere wc.drew) rfl (by kernel_rfl) (by kernel_rfl) ?_
                        refine wpQ_ps rfl fun K hK => ?_
                        simp only [List.map_cons, List.map_nil, Option.getD_some, List.getElem?_toArray, List.getElem?_cons_zero, List.getElem?_cons_succ]
                        iterate 3 (first | (apply quietO_cons _ rfl; (intro w' _; go_simp; rfl)) | apply quietO_skip rfl)
                        refine hK _ ?_
                        clear hK K
                        simp only [Act.put, List.setIfInBounds_toArray, List.set_cons_zero, List.set_cons_succ]
                        refine wpQ_ps rfl fun K hK => ?_
                        simp only [List.map_cons, List.map_nil, Option.getD_some, List.getElem?_toArray, List.getElem?_cons_zero, List.getElem?_cons_succ]
                        iterate 1 (first | (apply quietO_cons _ rfl; (intro w' _; go_simp; rfl)) | apply quietO_skip rfl)
                        refine hK _ ?_
                        clear hK K
                        simp only [Act.put, List.setIfInBounds_toArray, List.set_cons_zero, List.set_cons_succ]
                        refine wpQ_fs rfl (Keeps.refl _ _) fun K hK => ?_
                        simp only [List.map_cons, List.map_nil, Option.getD_some, List.getElem?_toArray, List.getElem?_cons_zero, List.getElem?_cons_succ]
                        iterate 1 (first | (apply quietO_cons _ rfl; (intro w' hs; have c_0 := q2 w' hs; have c_1 := q3 w' hs; have c_2 := q4 w' hs; have c_3 := q5 w' hs; have c_4 := q6 w' hs; have c_5 := q7 w' hs; go_simp; rfl)) | apply quietO_skip rfl)
                        refine hK _ ?_
                        clear hK K
                        simp only [Act.put, List.setIfInBounds_toArray, List.set_cons_zero, List.set_cons_succ]
                        refine wpQ_ps rfl fun K hK => ?_
                        simp only [List.map_cons, List.map_nil, Option.getD_some, List.getElem?_toArray, List.getElem?_cons_zero, List.getElem?_cons_succ]
                        iterate 3 (first | (apply quietO_cons _ rfl; (intro w' _; go_simp; rfl)) | apply quietO_skip rfl)
                        refine hK _ ?_
                        clear hK K
                        simp only [Act.put, List.setIfInBounds_toArray, List.set_cons_zero, List.set_cons_succ]
                        clear q2 q3 q4 q5 q6 q7
                        rw [← HVA.out]
                        refine wpQ_nil ?_
                        refine tree_step [(0, true), (7, false)] (by kernel_rfl) (by simp) (by kernel_rfl) ?_
                        intro x hx
                        simp only [List.mem_cons, List.not_mem_nil, or_false] at hx
                        rcases hx with rfl | rfl
                        · refine tree_op rfl rfl fun K hK => ?_
                          have HK := Lib.hid hK
                          clear hK
                          simp only [Option.getD_some, List.getElem?_toArray, List.getElem?_cons_zero, List.getElem?_cons_succ]
                          go_wp2_with fail
                          refine HK.out _ _ (fun _ => ((Keeps.refl nowhere wc.drew).alloc _)) ?_
                          clear HK K
                          refine tree_step [(4, true), (7, false)] (by kernel_rfl) (by simp) (by kernel_rfl) ?_
                          intro x hx
                          simp only [List.mem_cons, List.not_mem_nil, or_false] at hx
                          rcases hx with rfl | rfl
                          · refine tree_op rfl rfl fun K hK => ?_
                            have HK := Lib.hid hK
                            clear hK
                            simp only [Option.getD_some, List.getElem?_toArray, List.getElem?_cons_zero, List.getElem?_cons_succ]
                            go_wp2_with (at_builtin; go_must (refine RecT.wpList_append Try.underlying27 infoFd rfl (by decide) rfl (.tmp 96) (.tmp 99) rfl _ [] rfl RowA.out _ _ ((m.map Prod.snd).take k) rfl RdA.out Hlb1.out ?_))
                            intro v5 w5 hrow5 hk5 hf5
                            try rw [List.nil_append] at hrow5
                            have hk6 : Keeps nowhere wc w5 := KA.out.trans hk5 (fun b hb e => by simp [Value.ownBlock] at e; omega)
                            have hab5 : Above wc.heap.size v5.ownBlock := fun b hb => by
                              rcases hf5 b hb with h | h
                              · simp [Value.ownBlock] at h; omega
                              · have := KA.out.size; (try simp at this); (try simp at h); omega
                            have k7 := hk6.alloc (.cells (recF.cs (⟨f1, f2, f3, f4, f5, f6⟩ : FidV)).toArray recF.t)
                            have row6 := hrow5.same ((Keeps.refl nowhere w5).alloc (.cells (recF.cs (⟨f1, f2, f3, f4, f5, f6⟩ : FidV)).toArray recF.t))
                            have j6 : recF.Rd (w5.alloc (.cells (recF.cs (⟨f1, f2, f3, f4, f5, f6⟩ : FidV)).toArray recF.t)) (.slice (some ⟨w5.heap.size, 0, none⟩) 1 1) (some w5.heap.size) [(⟨f1, f2, f3, f4, f5, f6⟩ : FidV)] := RecT.Rd.one recF w5 ((⟨f1, f2, f3, f4, f5, f6⟩ : FidV))
                            have k6d : Keeps nowhere wc.drew w5 := ((Keeps.refl nowhere wc.drew).alloc _).trans hk5 (fun b hb e => by simp [Value.ownBlock] at e hb; omega)
                            clear hk5 hf5
                            have Hk6 := Lib.hid hk6
                            have Hab5 := Lib.hid hab5
                            have K7 := Lib.hid k7
                            have Row6 := Lib.hid row6
                            have J6 := Lib.hid j6
                            have Hrow5 := Lib.hid hrow5
                            clear hk6 hab5 k7 row6 j6 hrow5
                            go_wp2_with fail
                            refine HK.out _ _ (fun _ => k6d) ?_
                            clear HK K
                            refine tree_step [(7, false)] (by kernel_rfl) (by simp) (by kernel_rfl) ?_
                            intro x hx
                            obtain rfl := List.mem_singleton.1 hx
                            refine tree_op rfl rfl fun K hK => ?_
                            have HK := Lib.hid hK
                            clear hK
                            simp only [Option.getD_some, List.getElem?_toArray, List.getElem?_cons_zero, List.getElem?_cons_succ]
                            refine RecT.wpList_buildOne (R := recF) Try.underlying27 infoFd (by decide) rfl (.tmp 102) rfl _ rfl (⟨f1, f2, f3, f4, f5, f6⟩ : FidV) rfl ?_
                            go_wp2_with fail
                            refine HK.out _ _ (fun h => by cases h) ?_
                            clear HK K
                            refine tree_step [(8, false)] (by kernel_rfl) (by simp) (by kernel_rfl) ?_
                            intro x hx
                            obtain rfl := List.mem_singleton.1 hx
                            refine tree_op rfl rfl fun K hK => ?_
                            have HK := Lib.hid hK
                            clear hK
                            simp only [Option.getD_some, List.getElem?_toArray, List.getElem?_cons_zero, List.getElem?_cons_succ]
                            go_wp2_with (at_builtin; go_must (refine RecT.wpList_append Try.underlying27 infoFd rfl (by decide) rfl (.tmp 100) (.tmp 103) rfl _ ((m.map Prod.snd).take k) rfl Row6.out _ _ [(⟨f1, f2, f3, f4, f5, f6⟩ : FidV)] rfl J6.out Hlb2.out ?_))
                            intro v7 w7 hrow7 hk7 hf7
                            have hk8 : Keeps nowhere wc w7 := K7.out.trans hk7 (fun b hb e => absurd (Hab5.out b e) (by omega))
                            have hab7 : Above wc.heap.size v7.ownBlock := fun b hb => by
                              rcases hf7 b hb with h | h
                              · exact Hab5.out b h
                              · have := K7.out.size; (try simp at this); (try simp at h); omega
                            have hrd := Hdrop.out w7 hk8
                            clear hk7 hf7
                            have Hrow7 := Lib.hid hrow7
                            have Hk8 := Lib.hid hk8
                            have Hab7 := Lib.hid hab7
                            have Hrd := Lib.hid hrd
                            clear hrow7 hk8 hab7 hrd
                            go_wp2_with fail
                            refine HK.out _ _ (fun h => by cases h) ?_
                            clear HK K
                            refine tree_step [(12, false)] (by kernel_rfl) (by simp) (by kernel_rfl) ?_
                            intro x hx
                            obtain rfl := List.mem_singleton.1 hx
                            refine tree_op rfl rfl fun K hK => ?_
                            have HK := Lib.hid hK
                            clear hK
                            simp only [Option.getD_some, List.getElem?_toArray, List.getElem?_cons_zero, List.getElem?_cons_succ]
                            go_wp2_with (at_builtin; go_must (refine RecT.wpList_append Try.underlying27 infoFd rfl (by decide) rfl (.tmp 104) (.tmp 107) rfl _ ((m.map Prod.snd).take k ++ [(⟨f1, f2, f3, f4, f5, f6⟩ : FidV)]) rfl Hrow7.out _ _ ((m.map Prod.snd).drop k) rfl Hrd.out Hlb3.out ?_))
                            intro v9 w9 hrow9 hk9 hf9
                            have hk10 : Keeps nowhere wc w9 := Hk8.out.trans hk9 (fun b hb e => absurd (Hab7.out b e) (by omega))
                            clear hk9 hf9
                            have Hrow9 := Lib.hid hrow9
                            have Hk10 := Lib.hid hk10
                            clear hrow9 hk10
                            go_wp2_with fail
                            refine HK.out _ _ (fun h => by cases h) ?_
                            clear HK K
                            refine tree_step [(13, false)] (by kernel_rfl) (by simp) (by kernel_rfl) ?_
                            intro x hx
                            obtain rfl := List.mem_singleton.1 hx
                            refine tree_op rfl rfl fun K hK => ?_
                            have HK := Lib.hid hK
                            clear hK
                            simp only [Option.getD_some, List.getElem?_toArray, List.getElem?_cons_zero, List.getElem?_cons_succ]
                            go_wp2_with fail
                            refine HK.out _ _ (fun h => by cases h) ?_
                            clear HK K
                            refine tree_fin (by kernel_rfl) ?_
                            go_wp2_with fail
                            go_meet
                            case rel => exact ⟨_, stand_ins (H4.out.same Hk10.out) (Hr4.out.same Hk10.out) (by first | exact Hrow9.out | (have := Hrow9.out; rwa [List.append_assoc] at this)), by have := Hml.out; rw [HN.out] at this; simp; omega⟩
                          · refine tree_op rfl rfl fun K hK => ?_
                            have HK := Lib.hid hK
                            clear hK
                            simp only [Option.getD_some, List.getElem?_toArray, List.getElem?_cons_zero, List.getElem?_cons_succ]
                            refine RecT.wpList_buildOne (R := recF) Try.underlying27 infoFd (by decide) rfl (.tmp 102) rfl _ rfl (⟨f1, f2, f3, f4, f5, f6⟩ : FidV) rfl ?_
                            go_wp2_with fail
                            refine HK.out _ _ (fun h => by cases h) ?_
                            clear HK K
                            refine tree_step [(4, false)] (by kernel_rfl) (by simp) (by kernel_rfl) ?_
                            intro x hx
                            obtain rfl := List.mem_singleton.1 hx
                            refine tree_op rfl rfl fun K hK => ?_
                            have HK := Lib.hid hK
                            clear hK
                            simp only [Option.getD_some, List.getElem?_toArray, List.getElem?_cons_zero, List.getElem?_cons_succ]
                            go_wp2_with (at_builtin; go_must (refine RecT.wpList_append Try.underlying27 infoFd rfl (by decide) rfl (.tmp 96) (.tmp 99) rfl _ [] rfl RowB.out _ _ ((m.map Prod.snd).take k) rfl RdB.out Hlb1.out ?_))
                            intro v5 w5 hrow5 hk5 hf5
                            try rw [List.nil_append] at hrow5
                            have hk6 : Keeps nowhere wc w5 := KB.out.trans hk5 (fun b hb e => by simp [Value.ownBlock] at e; omega)
                            have hab5 : Above wc.heap.size v5.ownBlock := fun b hb => by
                              rcases hf5 b hb with h | h
                              · simp [Value.ownBlock] at h; omega
                              · have := KB.out.size; (try simp at this); (try simp at h); omega
                            have j6 := JB.out.keep hk5 (fun b hb e => by simp [Value.ownBlock] at e hb; omega)
                            clear hk5 hf5
                            have Hk6 := Lib.hid hk6
                            have Hab5 := Lib.hid hab5
                            have J6 := Lib.hid j6
                            have Hrow5 := Lib.hid hrow5
                            clear hk6 hab5 j6 hrow5
                            go_wp2_with fail
                            refine HK.out _ _ (fun h => by cases h) ?_
                            clear HK K
                            refine tree_step [(8, false)] (by kernel_rfl) (by simp) (by kernel_rfl) ?_
                            intro x hx
                            obtain rfl := List.mem_singleton.1 hx
                            refine tree_op rfl rfl fun K hK => ?_
                            have HK := Lib.hid hK
                            clear hK
                            simp only [Option.getD_some, List.getElem?_toArray, List.getElem?_cons_zero, List.getElem?_cons_succ]
                            go_wp2_with (at_builtin; go_must (refine RecT.wpList_append Try.underlying27 infoFd rfl (by decide) rfl (.tmp 100) (.tmp 103) rfl _ ((m.map Prod.snd).take k) rfl Hrow5.out _ _ [(⟨f1, f2, f3, f4, f5, f6⟩ : FidV)] rfl J6.out Hlb2.out ?_))
                            intro v7 w7 hrow7 hk7 hf7
                            have hk8 : Keeps nowhere wc w7 := Hk6.out.trans hk7 (fun b hb e => absurd (Hab5.out b e) (by omega))
                            have hab7 : Above wc.heap.size v7.ownBlock := fun b hb => by
                              rcases hf7 b hb with h | h
                              · exact Hab5.out b h
                              · have := Hk6.out.size; (try simp at this); (try simp at h); omega
                            have hrd := Hdrop.out w7 hk8
                            clear hk7 hf7
                            have Hrow7 := Lib.hid hrow7
                            have Hk8 := Lib.hid hk8
                            have Hab7 := Lib.hid hab7
                            have Hrd := Lib.hid hrd
                            clear hrow7 hk8 hab7 hrd
                            go_wp2_with fail
                            refine HK.out _ _ (fun h => by cases h) ?_
                            clear HK K
                            refine tree_step [(12, false)] (by kernel_rfl) (by simp) (by kernel_rfl) ?_
                            intro x hx
                            obtain rfl := List.mem_singleton.1 hx
                            refine tree_op rfl rfl fun K hK => ?_
                            have HK := Lib.hid hK
                            clear hK
                            simp only [Option.getD_some, List.getElem?_toArray, List.getElem?_cons_zero, List.getElem?_cons_succ]
                            go_wp2_with (at_builtin; go_must (refine RecT.wpList_append Try.underlying27 infoFd rfl (by decide) rfl (.tmp 104) (.tmp 107) rfl _ ((m.map Prod.snd).take k ++ [(⟨f1, f2, f3, f4, f5, f6⟩ : FidV)]) rfl Hrow7.out _ _ ((m.map Prod.snd).drop k) rfl Hrd.out Hlb3.out ?_))
                            intro v9 w9 hrow9 hk9 hf9
                            have hk10 : Keeps nowhere wc w9 := Hk8.out.trans hk9 (fun b hb e => absurd (Hab7.out b e) (by omega))
                            clear hk9 hf9
                            have Hrow9 := Lib.hid hrow9
                            have Hk10 := Lib.hid hk10
                            clear hrow9 hk10
                            go_wp2_with fail
                            refine HK.out _ _ (fun h => by cases h) ?_
                            clear HK K
                            refine tree_step [(13, false)] (by kernel_rfl) (by simp) (by kernel_rfl) ?_
                            intro x hx
                            obtain rfl := List.mem_singleton.1 hx
                            refine tree_op rfl rfl fun K hK => ?_
                            have HK := Lib.hid hK
                            clear hK
                            simp only [Option.getD_some, List.getElem?_toArray, List.getElem?_cons_zero, List.getElem?_cons_succ]
                            go_wp2_with fail
                            refine HK.out _ _ (fun h => by cases h) ?_
                            clear HK K
                            refine tree_fin (by kernel_rfl) ?_
                            go_wp2_with fail
                            go_meet
                            case rel => exact ⟨_, stand_ins (H4.out.same Hk10.out) (Hr4.out.same Hk10.out) (by first | exact Hrow9.out | (have := Hrow9.out; rwa [List.append_assoc] at this)), by have := Hml.out; rw [HN.out] at this; simp; omega⟩
                        · refine tree_op rfl rfl fun K hK => ?_
                          have HK := Lib.hid hK
                          clear hK
                          simp only [Option.getD_some, List.getElem?_toArray, List.getElem?_cons_zero, List.getElem?_cons_succ]
                          refine RecT.wpList_buildOne (R := recF) Try.underlying27 infoFd (by decide) rfl (.tmp 102) rfl _ rfl (⟨f1, f2, f3, f4, f5, f6⟩ : FidV) rfl ?_
                          go_wp2_with fail
                          refine HK.out _ _ (fun h => by cases h) ?_
                          clear HK K
                          refine tree_step [(0, false)] (by kernel_rfl) (by simp) (by kernel_rfl) ?_
                          intro x hx
                          obtain rfl := List.mem_singleton.1 hx
                          refine tree_op rfl rfl fun K hK => ?_
                          have HK := Lib.hid hK
                          clear hK
                          simp only [Option.getD_some, List.getElem?_toArray, List.getElem?_cons_zero, List.getElem?_cons_succ]
                          go_wp2_with fail
                          refine HK.out _ _ (fun h => by cases h) ?_
                          clear HK K
                          refine tree_step [(4, false)] (by kernel_rfl) (by simp) (by kernel_rfl) ?_
                          intro x hx
                          obtain rfl := List.mem_singleton.1 hx
                          refine tree_op rfl rfl fun K hK => ?_
                          have HK := Lib.hid hK
                          clear hK
                          simp only [Option.getD_some, List.getElem?_toArray, List.getElem?_cons_zero, List.getElem?_cons_succ]
                          go_wp2_with (at_builtin; go_must (refine RecT.wpList_append Try.underlying27 infoFd rfl (by decide) rfl (.tmp 96) (.tmp 99) rfl _ [] rfl RowD.out _ _ ((m.map Prod.snd).take k) rfl RdD.out Hlb1.out ?_))
                          intro v5 w5 hrow5 hk5 hf5
                          try rw [List.nil_append] at hrow5
                          have hk6 : Keeps nowhere wc w5 := KD.out.trans hk5 (fun b hb e => by simp [Value.ownBlock] at e; omega)
                          have hab5 : Above wc.heap.size v5.ownBlock := fun b hb => by
                            rcases hf5 b hb with h | h
                            · simp [Value.ownBlock] at h; omega
                            · have := KD.out.size; (try simp at this); (try simp at h); omega
                          have j6 := JD.out.keep hk5 (fun b hb e => by simp [Value.ownBlock] at e hb; omega)
                          clear hk5 hf5
                          have Hk6 := Lib.hid hk6
                          have Hab5 := Lib.hid hab5
                          have J6 := Lib.hid j6
                          have Hrow5 := Lib.hid hrow5
                          clear hk6 hab5 j6 hrow5
                          go_wp2_with fail
                          refine HK.out _ _ (fun h => by cases h) ?_
                          clear HK K
                          refine tree_step [(8, false)] (by kernel_rfl) (by simp) (by kernel_rfl) ?_
                          intro x hx
                          obtain rfl := List.mem_singleton.1 hx
                          refine tree_op rfl rfl fun K hK => ?_
                          have HK := Lib.hid hK
                          clear hK
                          simp only [Option.getD_some, List.getElem?_toArray, List.getElem?_cons_zero, List.getElem?_cons_succ]
                          go_wp2_with (at_builtin; go_must (refine RecT.wpList_append Try.underlying27 infoFd rfl (by decide) rfl (.tmp 100) (.tmp 103) rfl _ ((m.map Prod.snd).take k) rfl Hrow5.out _ _ [(⟨f1, f2, f3, f4, f5, f6⟩ : FidV)] rfl J6.out Hlb2.out ?_))
                          intro v7 w7 hrow7 hk7 hf7
                          have hk8 : Keeps nowhere wc w7 := Hk6.out.trans hk7 (fun b hb e => absurd (Hab5.out b e) (by omega))
                          have hab7 : Above wc.heap.size v7.ownBlock := fun b hb => by
                            rcases hf7 b hb with h | h
                            · exact Hab5.out b h
                            · have := Hk6.out.size; (try simp at this); (try simp at h); omega
                          have hrd := Hdrop.out w7 hk8
                          clear hk7 hf7
                          have Hrow7 := Lib.hid hrow7
                          have Hk8 := Lib.hid hk8
                          have Hab7 := Lib.hid hab7
                          have Hrd := Lib.hid hrd
                          clear hrow7 hk8 hab7 hrd
                          go_wp2_with fail
                          refine HK.out _ _ (fun h => by cases h) ?_
                          clear HK K
                          refine tree_step [(12, false)] (by kernel_rfl) (by simp) (by kernel_rfl) ?_
                          intro x hx
                          obtain rfl := List.mem_singleton.1 hx
                          refine tree_op rfl rfl fun K hK => ?_
                          have HK := Lib.hid hK
                          clear hK
                          simp only [Option.getD_some, List.getElem?_toArray, List.getElem?_cons_zero, List.getElem?_cons_succ]
                          go_wp2_with (at_builtin; go_must (refine RecT.wpList_append Try.underlying27 infoFd rfl (by decide) rfl (.tmp 104) (.tmp 107) rfl _ ((m.map Prod.snd).take k ++ [(⟨f1, f2, f3, f4, f5, f6⟩ : FidV)]) rfl Hrow7.out _ _ ((m.map Prod.snd).drop k) rfl Hrd.out Hlb3.out ?_))
                          intro v9 w9 hrow9 hk9 hf9
                          have hk10 : Keeps nowhere wc w9 := Hk8.out.trans hk9 (fun b hb e => absurd (Hab7.out b e) (by omega))
                          clear hk9 hf9
                          have Hrow9 := Lib.hid hrow9
                          have Hk10 := Lib.hid hk10
                          clear hrow9 hk10
                          go_wp2_with fail
                          refine HK.out _ _ (fun h => by cases h) ?_
                          clear HK K
                          refine tree_step [(13, false)] (by kernel_rfl) (by simp) (by kernel_rfl) ?_
                          intro x hx
                          obtain rfl := List.mem_singleton.1 hx
                          refine tree_op rfl rfl fun K hK => ?_
                          have HK := Lib.hid hK
                          clear hK
                          simp only [Option.getD_some, List.getElem?_toArray, List.getElem?_cons_zero, List.getElem?_cons_succ]
                          go_wp2_with fail
                          refine HK.out _ _ (fun h => by cases h) ?_
                          clear HK K
                          refine tree_fin (by kernel_rfl) ?_
                          go_wp2_with fail
                          go_meet
                          case rel => exact ⟨_, stand_ins (H4.out.same Hk10.out) (Hr4.out.same Hk10.out) (by first | exact Hrow9.out | (have := Hrow9.out; rwa [List.append_assoc] at this)), by have := Hml.out; rw [HN.out] at this; simp; omega⟩
            by_cases o2 : o = 2
            · as_aux_lemma =>
                subst o2
                clear a0
                rcases htc with ⟨rfl, g, htk⟩ | ⟨rfl, htn, hln⟩
                · have hlk := look_at Hst7.out.q.t.2.2 htk
                  have hE : getE m X = 0 := by rw [getE, hlk]; rfl
                  have hLs : setL m X ⟨f1, f2, f3, f4, f5, f6⟩ = m.take k ++ (X, ⟨f1, f2, f3, f4, f5, f6⟩) :: m.drop (k + 1) := by rw [setL, if_pos hE]; exact put_at _ Hst7.out.q.t.2.2 htk
                  have hkN : k < N := by rw [HN.out]; exact (List.getElem?_eq_some_iff.1 htk).1
                  have Hml := Lib.hid hml
                  have HX := Lib.hid hX
                  have Htk := Lib.hid htk
                  clear hml hX htk
                  go_wp2_with fail
                  refine (own_fset X ⟨f1, f2, f3, f4, f5, f6⟩ Hst7.out.q HX.out (by have := HN.out; have := Hml.out; omega)).mono ?_
                  rintro e w3 ⟨rfl, h3, hk3⟩
                  rw [hE]
                  rw [hLs] at h3
                  obtain ⟨hr3, hs3⟩ := Hst7.out.rows hk3
                  have hbx3 := Blk.keep Hbx7.out hk3 (ActBox20.ne Hbx7.out Hst7.out.q.t.2)
                  clear hk3 hE hLs hlk
                  have hlb : ([] : List FidV).length + (m.map Prod.snd).length ≤ 100000000 := by have := HN.out; have := Hml.out; simp; omega
                  have H3 := Lib.hid h3
                  have Hr3 := Lib.hid hr3
                  have Hs3 := Lib.hid hs3
                  have Hbx3 := Lib.hid hbx3
                  have Hlb := Lib.hid hlb
                  clear h3 hr3 hs3 hbx3 hlb
                  clear a1 a2 a3 a4 a5 a6 a7
                  obtain ⟨-, a1, a2, a3, a4, a5, a6, a7⟩ := box_cells Hbx3.out
                  go_upto_region 34 with fail
                  have hka : Keeps nowhere w3 (w3.alloc (.cells #[] 31)) := (Keeps.refl nowhere w3).alloc _
                  have hrow0 : recF.Row (w3.alloc (.cells #[] 31)) (.slice (some ⟨w3.heap.size, 0, none⟩) 0 0) [] := RecT.Row.empty recF w3
                  have hrd := Hs3.out.rd.same hka
                  clear a1 a2 a3 a4 a5 a6 a7
                  have Hka := Lib.hid hka
                  have Hrow0 := Lib.hid hrow0
                  have Hrd := Lib.hid hrd
                  clear hka hrow0 hrd
                  go_wp2_with (at_builtin; go_must (refine RecT.wpList_append Try.underlying27 infoFd rfl (by decide) rfl (.tmp 134) (.tmp 135) rfl _ [] rfl Hrow0.out _ _ (m.map Prod.snd) rfl Hrd.out Hlb.out ?_))
                  intro v5 w5 hrow5 hk5 hf5
                  try rw [List.nil_append] at hrow5
                  have hk6 : Keeps nowhere w3 w5 := Hka.out.trans hk5 (fun b hb e => by simp [Value.ownBlock] at e; omega)
                  have hab5 : Above w3.heap.size v5.ownBlock := fun b hb => by
                    rcases hf5 b hb with h | h
                    · simp [Value.ownBlock] at h; omega
                    · have := Hka.out.size; (try simp at this); (try simp at h); omega
                  clear hk5 hf5
                  have hNm : (m.map Prod.snd).length = N := by rw [List.length_map, HN.out]
                  rcases hrow5.blk with ⟨-, h0⟩ | ⟨b5, cap5, rest5, rfl, hb5, -, hcap5, -⟩
                  · rw [h0] at hNm; simp at hNm; omega
                  rw [hNm] at hrow5 ⊢
                  have hbx5 := Blk.keep Hbx3.out hk6 (fun h => h)
                  have h5 := H3.out.same hk6
                  have hr5 := Hr3.out.same hk6
                  obtain ⟨-, a1, a2, a3, a4, a5, a6, a7⟩ := box_cells hbx5
                  rw [← hNm] at hrow5
                  obtain ⟨hcs, hrow6, hk7⟩ := hrow5.store (i := k) (by rw [hNm]; exact hkN) ⟨f1, f2, f3, f4, f5, f6⟩
                  rw [hNm] at hrow5 hrow6
                  obtain ⟨w6, hw6⟩ : ∃ w6, w6 = w5.setCells b5 (k * recF.n) (recF.cs ⟨f1, f2, f3, f4, f5, f6⟩) := ⟨_, rfl⟩
                  rw [← hw6] at hrow6 hk7
                  obtain ⟨⟨u0, z0⟩, y0⟩ := hcs 0 (by decide)
                  obtain ⟨⟨u1, z1⟩, y1⟩ := hcs 1 (by decide)
                  obtain ⟨⟨u2, z2⟩, y2⟩ := hcs 2 (by decide)
                  obtain ⟨⟨u3, z3⟩, y3⟩ := hcs 3 (by decide)
                  obtain ⟨⟨u4, z4⟩, y4⟩ := hcs 4 (by decide)
                  obtain ⟨⟨u5, z5⟩, y5⟩ := hcs 5 (by decide)
                  rw [show k * recF.n = k * 6 from rfl] at hw6 z0 z1 z2 z3 z4 z5 y0 y1 y2 y3 y4 y5
                  rw [Nat.add_zero] at z0 y0
                  have hk0 : (0 : Int) ≤ (k : Int) := by omega
                  have hkNI : (k : Int) < N := by omega
                  have h6 : FOwn w w6 p b _ := h5.aside hk7 (Nat.le_trans H3.out.k.size (hab5 b5 rfl)) (fun e => by have := H3.out.t.lt.1; have := hab5 b5 rfl; omega) (fun e => by have := H3.out.t.lt.2; have := hab5 b5 rfl; omega)
                  have hr6 := hr5.keep hk7 (fun b' e1 e2 => by have := Hr3.out.lt b' e1; have := hab5 b5 rfl; have e3 : b' = b5 := e2; omega)
                  clear hcs hbx5 h5 hr5 hcap5 hb5
                  simp only [RecT.cs, recF, FidV.cs, World.setCells] at hw6
                  have Hrow5 := Lib.hid hrow5
                  have Hrow6 := Lib.hid hrow6
                  have Hk6 := Lib.hid hk6
                  have Hk7 := Lib.hid hk7
                  have Hw6 := Lib.hid hw6
                  have H6 := Lib.hid h6
                  have Hr6 := Lib.hid hr6
                  have Hab5 := Lib.hid hab5
                  clear hrow5 hrow6 hk6 hk7 hw6 h6 hr6 hab5
                  go_wp2_with fail
                  rw [← Hw6.out]
                  go_meet
                  case rel => exact ⟨m.take k ++ (X, ⟨f1, f2, f3, f4, f5, f6⟩) :: m.drop (k + 1), ⟨H6.out, by rw [map_there Htk.out]; exact Hr6.out, by have := Hrow6.out; rw [set_split (by rw [List.length_map]; have := HN.out; omega)] at this; simpa only [List.map_append, List.map_cons, List.map_take, List.map_drop] using this⟩, by have := Hml.out; rw [HN.out] at this; simp; omega⟩
                · have hE : getE m X = 8 := by rw [getE, hln]; rfl
                  have hLs : setL m X ⟨f1, f2, f3, f4, f5, f6⟩ = m := by rw [setL, if_neg (by rw [hE]; decide)]
                  have Hml := Lib.hid hml
                  have HX := Lib.hid hX
                  have Htn := Lib.hid htn
                  have Hln := Lib.hid hln
                  clear hml hX htn hln
                  go_wp2_with fail
                  refine (own_fset X ⟨f1, f2, f3, f4, f5, f6⟩ Hst7.out.q HX.out (by have := HN.out; have := Hml.out; omega)).mono ?_
                  rintro e w3 ⟨rfl, h3, hk3⟩
                  rw [hE]
                  rw [hLs] at h3
                  obtain ⟨hr3, hs3⟩ := Hst7.out.rows hk3
                  have hbx3 := Blk.keep Hbx7.out hk3 (ActBox20.ne Hbx7.out Hst7.out.q.t.2)
                  have hst3 : Stand20 w w3 p b m _ _ := ⟨h3, hr3, hs3⟩
                  clear hk3 h3 hr3 hs3
                  clear a1 a2 a3 a4 a5 a6 a7
                  obtain ⟨-, a1, a2, a3, a4, a5, a6, a7⟩ := box_cells hbx3
                  have Hst3 := Lib.hid hst3
                  have Hbx3 := Lib.hid hbx3
                  clear hst3 hbx3
                  go_wp2_with fail
                  refine (own_fset X ⟨f1, f2, f3, f4, f5, f6⟩ Hst3.out.q HX.out (by have := HN.out; have := Hml.out; omega)).mono ?_
                  rintro e w4 ⟨rfl, h4, hk4⟩
                  rw [hE]
                  rw [hLs] at h4
                  obtain ⟨hr4, hs4⟩ := Hst3.out.rows hk4
                  clear hE hLs hk4 a1 a2 a3 a4 a5 a6 a7
                  have H4 := Lib.hid h4
                  have Hr4 := Lib.hid hr4
                  have Hs4 := Lib.hid hs4
                  clear h4 hr4 hs4
                  go_wp2_with fail
                  go_meet
                  case rel => exact ⟨m, ⟨H4.out, Hr4.out, Hs4.out⟩, by have := Hml.out; rw [HN.out] at this; omega⟩
            by_cases o3 : o = 3
            · as_aux_lemma =>
                subst o3
                rcases htc with ⟨rfl, g, htk⟩ | ⟨rfl, htn, hln⟩
                · have hlk := look_at Hst7.out.q.t.2.2 htk
                  have hE : getE m X = 0 := by rw [getE, hlk]; rfl
                  have hF : getF m X = g := by rw [getF, hlk]; rfl
                  have hkN : k < N := by rw [HN.out]; exact (List.getElem?_eq_some_iff.1 htk).1
                  have hE2 := Lib.hid hE
                  have hD := Lib.hid (del_at m k g Hst7.out.q.t.2.2 htk)
                  obtain ⟨g1, g2, g3, g4, g5, g6⟩ := g
                  have Hml := Lib.hid hml
                  have HX := Lib.hid hX
                  have Htk := Lib.hid htk
                  have HkN := Lib.hid hkN
                  clear hml hX htk hkN
                  clear hlk
                  clear a2 a3 a4 a5 a6 a7
                  go_wp2_with fail
                  refine (own_fget X Hst7.out.q HX.out).mono ?_
                  rintro e w3 ⟨rfl, h3, hk3⟩
                  rw [hE, hF]
                  have hst3 := Hst7.out.same hk3
                  have hbx3 := Blk.keep Hbx7.out hk3 (fun h => h)
                  obtain ⟨w4, hw4⟩ : ∃ w4, w4 = w3.alloc (.cells (FidV.cs ⟨g1, g2, g3, g4, g5, g6⟩).toArray 31) := ⟨_, rfl⟩
                  obtain ⟨fb, hfb⟩ : ∃ fb, fb = w3.heap.size := ⟨_, rfl⟩
                  have hbf : Blk w4 fb 31 (FidV.cs ⟨g1, g2, g3, g4, g5, g6⟩).toArray := by rw [hw4, hfb]; exact Blk.new _ _ _
                  have hk4 : Keeps nowhere w3 w4 := by rw [hw4]; exact (Keeps.refl nowhere w3).alloc _
                  have hst4 := hst3.same hk4
                  have hbx4 := Blk.keep hbx3 hk4 (fun h => h)
                  have hfbb : b < fb := by rw [hfb]; exact hst3.q.t.lt.2
                  have hfbp : p < fb := by rw [hfb]; exact hst3.q.t.lt.1
                  have hqfb : q < fb := by rw [hfb]; exact hbx3.lt
                  have hrfb := hst3.r.lt
                  rw [← hfb] at hrfb
                  have hfw : w.heap.size ≤ fb := Nat.le_trans hst3.q.lob (Nat.le_of_lt hfbb)
                  simp only [FidV.cs, FidV.zero, FidV.v] at hw4 ⊢
                  (try simp only [Int.natCast_zero] at hw4 ⊢)
                  clear hk3 hst3 hbx3 h3 hE hk4
                  have Hst4 := Lib.hid hst4
                  have Hbx4 := Lib.hid hbx4
                  have Hbf := Lib.hid hbf
                  have Hw4 := Lib.hid hw4
                  have Hfb := Lib.hid hfb
                  have Hfbb := Lib.hid hfbb
                  have Hfbp := Lib.hid hfbp
                  have Hqfb := Lib.hid hqfb
                  have Hfw := Lib.hid hfw
                  have Hrfb := Lib.hid hrfb
                  have HF := Lib.hid hF
                  clear hst4 hbx4 hbf hw4 hfb hfbb hfbp hqfb hfw hrfb hF
                  go_upto_region 39 with fail
                  rw [← Hw4.out]
                  simp only [← Hfb.out]
                  clear Hw4 Hfb a0 a1
                  obtain ⟨a0, a1, -, -, -, -, -, -⟩ := box_cells Hbx4.out
                  go_upto_region 41 with fail
                  go_cut [187] from 162 to 187 (fun tv wx => tv = .bool false ∧ Keeps nowhere w4 wx)
                  case first =>
                    have fcs : ∀ j w', Keeps nowhere w4.drew w' → w'.cell? ⟨fb, j, none⟩ = (FidV.cs ⟨g1, g2, g3, g4, g5, g6⟩)[j]? := fun j w' hs => by
                      rw [(Blk.keep (S := nowhere) Hbf.out ((Keeps.refl nowhere w4).drew.more hs) (fun h => h)).cell]; simp
                    have x0 := fcs 0
                    have x1 := fcs 1
                    have x2 := fcs 2
                    have x3 := fcs 3
                    have x4 := fcs 4
                    have x5 := fcs 5
                    simp only [FidV.cs, FidV.zero, List.getElem?_cons_zero, List.getElem?_cons_succ] at x0 x1 x2 x3 x4 x5
                    (try simp only [Int.natCast_zero] at x0 x1 x2 x3 x4 x5)
                    clear fcs
                    obtain ⟨b5, o5, rfl, hb5, hc5⟩ := row_at Hst4.out.r (k := k) (t := ⟨g1, g2, g3, g4, g5, g6⟩) (by rw [List.getElem?_map, Htk.out]; rfl)
                    have hyc : ∀ j, j < 6 → ∀ w', Keeps nowhere w4.drew w' → w'.cell? ⟨b5, o5 + k * 6 + j, none⟩ = (FidV.cs ⟨g1, g2, g3, g4, g5, g6⟩)[j]? := fun j hj w' hs => hc5.keep ((Keeps.refl nowhere w4).drew.more hs) hb5 (fun h => h) j hj
                    have y0 := hyc 0 (by decide)
                    have y1 := hyc 1 (by decide)
                    have y2 := hyc 2 (by decide)
                    have y3 := hyc 3 (by decide)
                    have y4 := hyc 4 (by decide)
                    have y5 := hyc 5 (by decide)
                    rw [Nat.add_zero] at y0
                    simp only [FidV.cs, List.getElem?_cons_zero, List.getElem?_cons_succ] at y0 y1 y2 y3 y4 y5
                    have hk0 : (0 : Int) ≤ (k : Int) := by omega
                    have hkNI : (k : Int) < N := by have := HkN.out; omega
                    clear hyc hc5 hb5
                    go_wp2_with fail
                    refine wp_region_script [0, 1, 2, 3, 4, 5, 6, 7, 8, 9, 10, 11, 12, 13, 14, 15, 16, 17, 18, 19, 20, 21, 22, 23, 24, 25] [5, 9, 20] [.ps [0, 1, 2], .ps [3, 4], .fs [5], .ps [6, 7, 8], .fs [9], .ps [10, 11], .ps [12, 13], .ps [14, 15, 16], .ps [17, 18, 19], .fs [20], .ps [21, 22], .ps [23, 24, 25]] (Keeps nowhere w4.drew) rfl (by kernel_rfl) ?_
                    refine wpS_ps rfl fun K hK => ?_
                    simp only [List.map_cons, List.map_nil, Option.getD_some, List.getElem?_toArray, List.getElem?_cons_zero, List.getElem?_cons_succ]
                    iterate 3 (first | (apply quietO_cons _ rfl; (intro w' _; go_simp; rfl)) | apply quietO_skip rfl)
                    refine hK _ ?_
                    clear hK K
                    simp only [Act.put, List.setIfInBounds_toArray, List.set_cons_zero, List.set_cons_succ]
                    refine wpS_ps rfl fun K hK => ?_
                    simp only [List.map_cons, List.map_nil, Option.getD_some, List.getElem?_toArray, List.getElem?_cons_zero, List.getElem?_cons_succ]
                    iterate 2 (first | (apply quietO_cons _ rfl; (intro w' _; go_simp; rfl)) | apply quietO_skip rfl)
                    refine hK _ ?_
                    clear hK K
                    simp only [Act.put, List.setIfInBounds_toArray, List.set_cons_zero, List.set_cons_succ]
                    refine wpS_fs rfl (Keeps.refl _ _) fun K hK => ?_
                    simp only [List.map_cons, List.map_nil, Option.getD_some, List.getElem?_toArray, List.getElem?_cons_zero, List.getElem?_cons_succ]
                    iterate 1 (first | (apply quietO_cons _ rfl; (intro w' hs; have c_0 := x0 w' hs; have c_1 := x1 w' hs; have c_2 := x2 w' hs; have c_3 := x3 w' hs; have c_4 := x4 w' hs; have c_5 := x5 w' hs; go_simp; rfl)) | apply quietO_skip rfl)
                    refine hK _ ?_
                    clear hK K
                    simp only [Act.put, List.setIfInBounds_toArray, List.set_cons_zero, List.set_cons_succ]
                    refine wpS_ps rfl fun K hK => ?_
                    simp only [List.map_cons, List.map_nil, Option.getD_some, List.getElem?_toArray, List.getElem?_cons_zero, List.getElem?_cons_succ]
                    iterate 3 (first | (apply quietO_cons _ rfl; (intro w' _; go_simp; rfl)) | apply quietO_skip rfl)
                    refine hK _ ?_
                    clear hK K
                    simp only [Act.put, List.setIfInBounds_toArray, List.set_cons_zero, List.set_cons_succ]
                    refine wpS_fs rfl (Keeps.refl _ _) fun K hK => ?_
                    simp only [List.map_cons, List.map_nil, Option.getD_some, List.getElem?_toArray, List.getElem?_cons_zero, List.getElem?_cons_succ]
                    iterate 1 (first | (apply quietO_cons _ rfl; (intro w' hs; have c_0 := y0 w' hs; have c_1 := y1 w' hs; have c_2 := y2 w' hs; have c_3 := y3 w' hs; have c_4 := y4 w' hs; have c_5 := y5 w' hs; go_simp; rfl)) | apply quietO_skip rfl)
                    refine hK _ ?_
                    clear hK K
                    simp only [Act.put, List.setIfInBounds_toArray, List.set_cons_zero, List.set_cons_succ]
                    refine wpS_ps rfl fun K hK => ?_
                    simp only [List.map_cons, List.map_nil, Option.getD_some, List.getElem?_toArray, List.getElem?_cons_zero, List.getElem?_cons_succ]
                    iterate 2 (first | (apply quietO_cons _ rfl; (intro w' _; go_simp; rfl)) | apply quietO_skip rfl)
                    refine hK _ ?_
                    clear hK K
                    simp only [Act.put, List.setIfInBounds_toArray, List.set_cons_zero, List.set_cons_succ]
                    refine wpS_ps rfl fun K hK => ?_
                    simp only [List.map_cons, List.map_nil, Option.getD_some, List.getElem?_toArray, List.getElem?_cons_zero, List.getElem?_cons_succ]
                    iterate 2 (first | (apply quietO_cons _ rfl; (intro w' _; go_simp; rfl)) | apply quietO_skip rfl)
                    refine hK _ ?_
                    clear hK K
                    simp only [Act.put, List.setIfInBounds_toArray, List.set_cons_zero, List.set_cons_succ]
                    refine wpS_ps rfl fun K hK => ?_
                    simp only [List.map_cons, List.map_nil, Option.getD_some, List.getElem?_toArray, List.getElem?_cons_zero, List.getElem?_cons_succ]
                    iterate 3 (first | (apply quietO_cons _ rfl; (intro w' _; go_simp; rfl)) | apply quietO_skip rfl)
                    refine hK _ ?_
                    clear hK K
                    simp only [Act.put, List.setIfInBounds_toArray, List.set_cons_zero, List.set_cons_succ]
                    refine wpS_ps rfl fun K hK => ?_
                    simp only [List.map_cons, List.map_nil, Option.getD_some, List.getElem?_toArray, List.getElem?_cons_zero, List.getElem?_cons_succ]
                    iterate 3 (first | (apply quietO_cons _ rfl; (intro w' _; go_simp; rfl)) | apply quietO_skip rfl)
                    refine hK _ ?_
                    clear hK K
                    simp only [Act.put, List.setIfInBounds_toArray, List.set_cons_zero, List.set_cons_succ]
                    refine wpS_fs rfl (Keeps.refl _ _) fun K hK => ?_
                    simp only [List.map_cons, List.map_nil, Option.getD_some, List.getElem?_toArray, List.getElem?_cons_zero, List.getElem?_cons_succ]
                    iterate 1 (first | (apply quietO_cons _ rfl; (intro w' hs; go_simp; rfl)) | apply quietO_skip rfl)
                    refine hK _ ?_
                    clear hK K
                    simp only [Act.put, List.setIfInBounds_toArray, List.set_cons_zero, List.set_cons_succ]
                    refine wpS_ps rfl fun K hK => ?_
                    simp only [List.map_cons, List.map_nil, Option.getD_some, List.getElem?_toArray, List.getElem?_cons_zero, List.getElem?_cons_succ]
                    iterate 2 (first | (apply quietO_cons _ rfl; (intro w' _; go_simp; rfl)) | apply quietO_skip rfl)
                    refine hK _ ?_
                    clear hK K
                    simp only [Act.put, List.setIfInBounds_toArray, List.set_cons_zero, List.set_cons_succ]
                    refine wpS_ps rfl fun K hK => ?_
                    simp only [List.map_cons, List.map_nil, Option.getD_some, List.getElem?_toArray, List.getElem?_cons_zero, List.getElem?_cons_succ]
                    iterate 3 (first | (apply quietO_cons _ rfl; (intro w' _; go_simp; rfl)) | apply quietO_skip rfl)
                    refine hK _ ?_
                    clear hK K
                    simp only [Act.put, List.setIfInBounds_toArray, List.set_cons_zero, List.set_cons_succ]
                    refine wpS_nil ?_
                    go_wp2_with fail
                    go_meet
                    case rel => exact ⟨rfl, (Keeps.refl nowhere w4).drew⟩
                  case rest =>
                    obtain ⟨rfl, hkc⟩ := hcut
                    have hst8 := Hst4.out.same hkc
                    have hbx8 := Blk.keep Hbx4.out hkc (fun h => h)
                    clear hkc a0 a1
                    obtain ⟨a0, a1, -, -, -, -, -, -⟩ := box_cells hbx8
                    have Hst8 := Lib.hid hst8
                    clear hst8
                    go_wp2_with fail
                    go_meet
                    case rel => exact ⟨m, Hst8.out, by have := Hml.out; rw [HN.out] at this; omega⟩
                · have hE : getE m X = 8 := by rw [getE, hln]; rfl
                  have hF : getF m X = FidV.zero := by rw [getF, hln]; rfl
                  have hE2 := Lib.hid hE
                  have hD := Lib.hid (delM_none (PosOf.none Hpos.out Hst7.out.q.t.2.2 htn))
                  have Hml := Lib.hid hml
                  have HX := Lib.hid hX
                  have Htn := Lib.hid htn
                  have Hln := Lib.hid hln
                  clear hml hX htn hln
                  clear a2 a3 a4 a5 a6 a7
                  go_wp2_with fail
                  refine (own_fget X Hst7.out.q HX.out).mono ?_
                  rintro e w3 ⟨rfl, h3, hk3⟩
                  rw [hE, hF]
                  have hst3 := Hst7.out.same hk3
                  have hbx3 := Blk.keep Hbx7.out hk3 (fun h => h)
                  obtain ⟨w4, hw4⟩ : ∃ w4, w4 = w3.alloc (.cells (FidV.cs FidV.zero).toArray 31) := ⟨_, rfl⟩
                  obtain ⟨fb, hfb⟩ : ∃ fb, fb = w3.heap.size := ⟨_, rfl⟩
                  have hbf : Blk w4 fb 31 (FidV.cs FidV.zero).toArray := by rw [hw4, hfb]; exact Blk.new _ _ _
                  have hk4 : Keeps nowhere w3 w4 := by rw [hw4]; exact (Keeps.refl nowhere w3).alloc _
                  have hst4 := hst3.same hk4
                  have hbx4 := Blk.keep hbx3 hk4 (fun h => h)
                  have hfbb : b < fb := by rw [hfb]; exact hst3.q.t.lt.2
                  have hfbp : p < fb := by rw [hfb]; exact hst3.q.t.lt.1
                  have hqfb : q < fb := by rw [hfb]; exact hbx3.lt
                  have hrfb := hst3.r.lt
                  rw [← hfb] at hrfb
                  have hfw : w.heap.size ≤ fb := Nat.le_trans hst3.q.lob (Nat.le_of_lt hfbb)
                  simp only [FidV.cs, FidV.zero, FidV.v] at hw4 ⊢
                  (try simp only [Int.natCast_zero] at hw4 ⊢)
                  clear hk3 hst3 hbx3 h3 hE hk4
                  have Hst4 := Lib.hid hst4
                  have Hbx4 := Lib.hid hbx4
                  have Hbf := Lib.hid hbf
                  have Hw4 := Lib.hid hw4
                  have Hfb := Lib.hid hfb
                  have Hfbb := Lib.hid hfbb
                  have Hfbp := Lib.hid hfbp
                  have Hqfb := Lib.hid hqfb
                  have Hfw := Lib.hid hfw
                  have Hrfb := Lib.hid hrfb
                  have HF := Lib.hid hF
                  clear hst4 hbx4 hbf hw4 hfb hfbb hfbp hqfb hfw hrfb hF
                  go_upto_region 39 with fail
                  rw [← Hw4.out]
                  simp only [← Hfb.out]
                  clear Hw4 Hfb a0 a1
                  obtain ⟨a0, a1, -, -, -, -, -, -⟩ := box_cells Hbx4.out
                  go_upto_region 41 with fail
                  go_cut [187] from 162 to 187 (fun tv wx => tv = .bool false ∧ Keeps nowhere w4 wx)
                  case first =>
                    have fcs : ∀ j w', Keeps nowhere w4.drew w' → w'.cell? ⟨fb, j, none⟩ = (FidV.cs FidV.zero)[j]? := fun j w' hs => by
                      rw [(Blk.keep (S := nowhere) Hbf.out ((Keeps.refl nowhere w4).drew.more hs) (fun h => h)).cell]; simp
                    have x0 := fcs 0
                    have x1 := fcs 1
                    have x2 := fcs 2
                    have x3 := fcs 3
                    have x4 := fcs 4
                    have x5 := fcs 5
                    simp only [FidV.cs, FidV.zero, List.getElem?_cons_zero, List.getElem?_cons_succ] at x0 x1 x2 x3 x4 x5
                    (try simp only [Int.natCast_zero] at x0 x1 x2 x3 x4 x5)
                    clear fcs
                    go_wp2_with fail
                    refine wp_region_script [0, 1, 2, 3, 4, 5, 6, 7, 8, 9, 10, 11, 12, 13, 14, 15, 16, 17, 18, 19, 20, 21, 22, 23, 24, 25] [5, 9, 20] [.ps [0, 1, 2], .ps [3, 4], .fs [5], .ps [6, 7, 8], .fs [9], .ps [10, 11], .ps [12, 13], .ps [14, 15, 16], .ps [17, 18, 19], .fs [20], .ps [21, 22], .ps [23, 24, 25]] (Keeps nowhere w4.drew) rfl (by kernel_rfl) ?_
                    refine wpS_ps rfl fun K hK => ?_
                    simp only [List.map_cons, List.map_nil, Option.getD_some, List.getElem?_toArray, List.getElem?_cons_zero, List.getElem?_cons_succ]
                    iterate 3 (first | (apply quietO_cons _ rfl; (intro w' _; go_simp; rfl)) | apply quietO_skip rfl)
                    refine hK _ ?_
                    clear hK K
                    simp only [Act.put, List.setIfInBounds_toArray, List.set_cons_zero, List.set_cons_succ]
                    refine wpS_ps rfl fun K hK => ?_
                    simp only [List.map_cons, List.map_nil, Option.getD_some, List.getElem?_toArray, List.getElem?_cons_zero, List.getElem?_cons_succ]
                    iterate 2 (first | (apply quietO_cons _ rfl; (intro w' _; go_simp; rfl)) | apply quietO_skip rfl)
                    refine hK _ ?_
                    clear hK K
                    simp only [Act.put, List.setIfInBounds_toArray, List.set_cons_zero, List.set_cons_succ]
                    refine wpS_fs rfl (Keeps.refl _ _) fun K hK => ?_
                    simp only [List.map_cons, List.map_nil, Option.getD_some, List.getElem?_toArray, List.getElem?_cons_zero, List.getElem?_cons_succ]
                    iterate 1 (first | (apply quietO_cons _ rfl; (intro w' hs; go_simp; rfl)) | apply quietO_skip rfl)
                    refine hK _ ?_
                    clear hK K
                    simp only [Act.put, List.setIfInBounds_toArray, List.set_cons_zero, List.set_cons_succ]
                    refine wpS_ps rfl fun K hK => ?_
                    simp only [List.map_cons, List.map_nil, Option.getD_some, List.getElem?_toArray, List.getElem?_cons_zero, List.getElem?_cons_succ]
                    iterate 3 (first | (apply quietO_cons _ rfl; (intro w' _; go_simp; rfl)) | apply quietO_skip rfl)
                    refine hK _ ?_
                    clear hK K
                    simp only [Act.put, List.setIfInBounds_toArray, List.set_cons_zero, List.set_cons_succ]
                    refine wpS_fs rfl (Keeps.refl _ _) fun K hK => ?_
                    simp only [List.map_cons, List.map_nil, Option.getD_some, List.getElem?_toArray, List.getElem?_cons_zero, List.getElem?_cons_succ]
                    iterate 1 (first | (apply quietO_cons _ rfl; (intro w' hs; go_simp; rfl)) | apply quietO_skip rfl)
                    refine hK _ ?_
                    clear hK K
                    simp only [Act.put, List.setIfInBounds_toArray, List.set_cons_zero, List.set_cons_succ]
                    refine wpS_ps rfl fun K hK => ?_
                    simp only [List.map_cons, List.map_nil, Option.getD_some, List.getElem?_toArray, List.getElem?_cons_zero, List.getElem?_cons_succ]
                    iterate 2 (first | (apply quietO_cons _ rfl; (intro w' _; go_simp; rfl)) | apply quietO_skip rfl)
                    refine hK _ ?_
                    clear hK K
                    simp only [Act.put, List.setIfInBounds_toArray, List.set_cons_zero, List.set_cons_succ]
                    refine wpS_ps rfl fun K hK => ?_
                    simp only [List.map_cons, List.map_nil, Option.getD_some, List.getElem?_toArray, List.getElem?_cons_zero, List.getElem?_cons_succ]
                    iterate 2 (first | (apply quietO_cons _ rfl; (intro w' _; go_simp; rfl)) | apply quietO_skip rfl)
                    refine hK _ ?_
                    clear hK K
                    simp only [Act.put, List.setIfInBounds_toArray, List.set_cons_zero, List.set_cons_succ]
                    refine wpS_ps rfl fun K hK => ?_
                    simp only [List.map_cons, List.map_nil, Option.getD_some, List.getElem?_toArray, List.getElem?_cons_zero, List.getElem?_cons_succ]
                    iterate 3 (first | (apply quietO_cons _ rfl; (intro w' _; go_simp; rfl)) | apply quietO_skip rfl)
                    refine hK _ ?_
                    clear hK K
                    simp only [Act.put, List.setIfInBounds_toArray, List.set_cons_zero, List.set_cons_succ]
                    refine wpS_ps rfl fun K hK => ?_
                    simp only [List.map_cons, List.map_nil, Option.getD_some, List.getElem?_toArray, List.getElem?_cons_zero, List.getElem?_cons_succ]
                    iterate 3 (first | (apply quietO_cons _ rfl; (intro w' _; go_simp; rfl)) | apply quietO_skip rfl)
                    refine hK _ ?_
                    clear hK K
                    simp only [Act.put, List.setIfInBounds_toArray, List.set_cons_zero, List.set_cons_succ]
                    refine wpS_fs rfl (Keeps.refl _ _) fun K hK => ?_
                    simp only [List.map_cons, List.map_nil, Option.getD_some, List.getElem?_toArray, List.getElem?_cons_zero, List.getElem?_cons_succ]
                    iterate 1 (first | (apply quietO_cons _ rfl; (intro w' hs; have c_0 := x0 w' hs; have c_1 := x1 w' hs; have c_2 := x2 w' hs; have c_3 := x3 w' hs; have c_4 := x4 w' hs; have c_5 := x5 w' hs; go_simp; rfl)) | apply quietO_skip rfl)
                    refine hK _ ?_
                    clear hK K
                    simp only [Act.put, List.setIfInBounds_toArray, List.set_cons_zero, List.set_cons_succ]
                    refine wpS_ps rfl fun K hK => ?_
                    simp only [List.map_cons, List.map_nil, Option.getD_some, List.getElem?_toArray, List.getElem?_cons_zero, List.getElem?_cons_succ]
                    iterate 2 (first | (apply quietO_cons _ rfl; (intro w' _; go_simp; rfl)) | apply quietO_skip rfl)
                    refine hK _ ?_
                    clear hK K
                    simp only [Act.put, List.setIfInBounds_toArray, List.set_cons_zero, List.set_cons_succ]
                    refine wpS_ps rfl fun K hK => ?_
                    simp only [List.map_cons, List.map_nil, Option.getD_some, List.getElem?_toArray, List.getElem?_cons_zero, List.getElem?_cons_succ]
                    iterate 3 (first | (apply quietO_cons _ rfl; (intro w' _; go_simp; rfl)) | apply quietO_skip rfl)
                    refine hK _ ?_
                    clear hK K
                    simp only [Act.put, List.setIfInBounds_toArray, List.set_cons_zero, List.set_cons_succ]
                    refine wpS_nil ?_
                    go_wp2_with fail
                    go_meet
                    case rel => exact ⟨rfl, (Keeps.refl nowhere w4).drew⟩
                  case rest =>
                    obtain ⟨rfl, hkc⟩ := hcut
                    have hst8 := Hst4.out.same hkc
                    have hbx8 := Blk.keep Hbx4.out hkc (fun h => h)
                    clear hkc a0 a1
                    obtain ⟨a0, a1, -, -, -, -, -, -⟩ := box_cells hbx8
                    have Hst8 := Lib.hid hst8
                    clear hst8
                    go_wp2_with fail
                    go_meet
                    case rel => exact ⟨m, Hst8.out, by have := Hml.out; rw [HN.out] at this; omega⟩
            by_cases o4 : o = 4
            · as_aux_lemma =>
                subst o4
                rcases htc with ⟨rfl, g, htk⟩ | ⟨rfl, htn, hln⟩
                · have hlk := look_at Hst7.out.q.t.2.2 htk
                  have hE : getE m X = 0 := by rw [getE, hlk]; rfl
                  have hF : getF m X = g := by rw [getF, hlk]; rfl
                  have hkN : k < N := by rw [HN.out]; exact (List.getElem?_eq_some_iff.1 htk).1
                  have hE2 := Lib.hid hE
                  have hD := Lib.hid (del_at m k g Hst7.out.q.t.2.2 htk)
                  obtain ⟨g1, g2, g3, g4, g5, g6⟩ := g
                  have Hml := Lib.hid hml
                  have HX := Lib.hid hX
                  have Htk := Lib.hid htk
                  have HkN := Lib.hid hkN
                  clear hml hX htk hkN
                  clear hlk
                  clear a2 a3 a4 a5 a6 a7
                  go_wp2_with fail
                  refine (own_fget X Hst7.out.q HX.out).mono ?_
                  rintro e w3 ⟨rfl, h3, hk3⟩
                  rw [hE, hF]
                  have hst3 := Hst7.out.same hk3
                  have hbx3 := Blk.keep Hbx7.out hk3 (fun h => h)
                  obtain ⟨w4, hw4⟩ : ∃ w4, w4 = w3.alloc (.cells (FidV.cs ⟨g1, g2, g3, g4, g5, g6⟩).toArray 31) := ⟨_, rfl⟩
                  obtain ⟨fb, hfb⟩ : ∃ fb, fb = w3.heap.size := ⟨_, rfl⟩
                  have hbf : Blk w4 fb 31 (FidV.cs ⟨g1, g2, g3, g4, g5, g6⟩).toArray := by rw [hw4, hfb]; exact Blk.new _ _ _
                  have hk4 : Keeps nowhere w3 w4 := by rw [hw4]; exact (Keeps.refl nowhere w3).alloc _
                  have hst4 := hst3.same hk4
                  have hbx4 := Blk.keep hbx3 hk4 (fun h => h)
                  have hfbb : b < fb := by rw [hfb]; exact hst3.q.t.lt.2
                  have hfbp : p < fb := by rw [hfb]; exact hst3.q.t.lt.1
                  have hqfb : q < fb := by rw [hfb]; exact hbx3.lt
                  have hrfb := hst3.r.lt
                  rw [← hfb] at hrfb
                  have hfw : w.heap.size ≤ fb := Nat.le_trans hst3.q.lob (Nat.le_of_lt hfbb)
                  simp only [FidV.cs, FidV.zero, FidV.v] at hw4 ⊢
                  (try simp only [Int.natCast_zero] at hw4 ⊢)
                  clear hk3 hst3 hbx3 h3 hE hk4
                  have Hst4 := Lib.hid hst4
                  have Hbx4 := Lib.hid hbx4
                  have Hbf := Lib.hid hbf
                  have Hw4 := Lib.hid hw4
                  have Hfb := Lib.hid hfb
                  have Hfbb := Lib.hid hfbb
                  have Hfbp := Lib.hid hfbp
                  have Hqfb := Lib.hid hqfb
                  have Hfw := Lib.hid hfw
                  have Hrfb := Lib.hid hrfb
                  have HF := Lib.hid hF
                  clear hst4 hbx4 hbf hw4 hfb hfbb hfbp hqfb hfw hrfb hF
                  go_upto_region 39 with fail
                  rw [← Hw4.out]
                  simp only [← Hfb.out]
                  clear Hw4 Hfb a0 a1
                  obtain ⟨a0, a1, -, -, -, -, -, -⟩ := box_cells Hbx4.out
                  go_wp2_with fail
                  refine (own_fdrop X Hst4.out.q HX.out (by have := HN.out; have := Hml.out; omega)).mono ?_
                  rintro e w5 ⟨rfl, h5, hk5⟩
                  rw [hE2.out, HF.out]
                  rw [hD.out] at h5
                  obtain ⟨hr5, hs5⟩ := Hst4.out.rows hk5
                  have hbx5 := Blk.keep Hbx4.out hk5 (ActBox20.ne Hbx4.out Hst4.out.q.t.2)
                  have hbf5 := Blk.keep Hbf.out hk5 (fun e => by have := Hfbb.out; have e2 : fb = b := e; omega)
                  obtain ⟨w6, hw6⟩ : ∃ w6, w6 = w5.setCells fb 0 (FidV.cs ⟨g1, g2, g3, g4, g5, g6⟩) := ⟨_, rfl⟩
                  obtain ⟨hbf6, hk6⟩ := box_again hbf5
                  rw [← hw6] at hbf6 hk6
                  obtain ⟨y0, y1, y2, y3, y4, y5⟩ := fbox_cells hbf5
                  have z0 := fun k => hbf5.frozen k
                  have h6 := h5.aside hk6 Hfw.out (by have := Hfbp.out; omega) (by have := Hfbb.out; omega)
                  have hr6 := hr5.keep hk6 (fun b' e1 e2 => row_ne_blk hr5 hbf5 (by decide) (by rw [e1]; exact congrArg some e2))
                  have hs6 := hs5.keep hk6 (fun b' e1 e2 => by have := Hrfb.out b' e1; have e3 : b' = fb := e2; omega)
                  have hbx6 := Blk.keep hbx5 hk6 (fun e => by have := Hqfb.out; have e2 : q = fb := e; omega)
                  clear a0 a1 hk5 h5 hr5 hs5 hbx5 hbf5 hk6 Hbx4 Hbf hD hE2
                  obtain ⟨a0, a1, -, -, -, -, -, -⟩ := box_cells hbx6
                  simp only [FidV.cs, FidV.zero, FidV.v, World.setCells] at hw6 y0 y1 y2 y3 y4 y5 ⊢
                  (try simp only [Int.natCast_zero] at hw6 y0 y1 y2 y3 y4 y5 ⊢)
                  have H6 := Lib.hid h6
                  have Hr6 := Lib.hid hr6
                  have Hs6 := Lib.hid hs6
                  have Hbx6 := Lib.hid hbx6
                  have Hbf6 := Lib.hid hbf6
                  have Hw6 := Lib.hid hw6
                  clear h6 hr6 hs6 hbx6 hbf6 hw6
                  go_upto_region 41 with fail
                  rw [← Hw6.out]
                  clear y0 y1 y2 y3 y4 y5 z0 Hw6
                  go_cut [187] from 162 to 187 (fun tv wx => tv = .bool false ∧ Keeps nowhere w6 wx)
                  case first =>
                    have fcs : ∀ j w', Keeps nowhere w6.drew w' → w'.cell? ⟨fb, j, none⟩ = (FidV.cs ⟨g1, g2, g3, g4, g5, g6⟩)[j]? := fun j w' hs => by
                      rw [(Blk.keep (S := nowhere) Hbf6.out ((Keeps.refl nowhere w6).drew.more hs) (fun h => h)).cell]; simp
                    have x0 := fcs 0
                    have x1 := fcs 1
                    have x2 := fcs 2
                    have x3 := fcs 3
                    have x4 := fcs 4
                    have x5 := fcs 5
                    simp only [FidV.cs, FidV.zero, List.getElem?_cons_zero, List.getElem?_cons_succ] at x0 x1 x2 x3 x4 x5
                    (try simp only [Int.natCast_zero] at x0 x1 x2 x3 x4 x5)
                    clear fcs
                    obtain ⟨b5, o5, rfl, hb5, hc5⟩ := row_at Hs6.out (k := k) (t := ⟨g1, g2, g3, g4, g5, g6⟩) (by rw [List.getElem?_map, Htk.out]; rfl)
                    have hyc : ∀ j, j < 6 → ∀ w', Keeps nowhere w6.drew w' → w'.cell? ⟨b5, o5 + k * 6 + j, none⟩ = (FidV.cs ⟨g1, g2, g3, g4, g5, g6⟩)[j]? := fun j hj w' hs => hc5.keep ((Keeps.refl nowhere w6).drew.more hs) hb5 (fun h => h) j hj
                    have y0 := hyc 0 (by decide)
                    have y1 := hyc 1 (by decide)
                    have y2 := hyc 2 (by decide)
                    have y3 := hyc 3 (by decide)
                    have y4 := hyc 4 (by decide)
                    have y5 := hyc 5 (by decide)
                    rw [Nat.add_zero] at y0
                    simp only [FidV.cs, List.getElem?_cons_zero, List.getElem?_cons_succ] at y0 y1 y2 y3 y4 y5
                    have hk0 : (0 : Int) ≤ (k : Int) := by omega
                    have hkNI : (k : Int) < N := by have := HkN.out; omega
                    clear hyc hc5 hb5
                    go_wp2_with fail
                    refine wp_region_script [0, 1, 2, 3, 4, 5, 6, 7, 8, 9, 10, 11, 12, 13, 14, 15, 16, 17, 18, 19, 20, 21, 22, 23, 24, 25] [5, 9, 20] [.ps [0, 1, 2], .ps [3, 4], .fs [5], .ps [6, 7, 8], .fs [9], .ps [10, 11], .ps [12, 13], .ps [14, 15, 16], .ps [17, 18, 19], .fs [20], .ps [21, 22], .ps [23, 24, 25]] (Keeps nowhere w6.drew) rfl (by kernel_rfl) ?_
                    refine wpS_ps rfl fun K hK => ?_
                    simp only [List.map_cons, List.map_nil, Option.getD_some, List.getElem?_toArray, List.getElem?_cons_zero, List.getElem?_cons_succ]
                    iterate 3 (first | (apply quietO_cons _ rfl; (intro w' _; go_simp; rfl)) | apply quietO_skip rfl)
                    refine hK _ ?_
                    clear hK K
                    simp only [Act.put, List.setIfInBounds_toArray, List.set_cons_zero, List.set_cons_succ]
                    refine wpS_ps rfl fun K hK => ?_
                    simp only [List.map_cons, List.map_nil, Option.getD_some, List.getElem?_toArray, List.getElem?_cons_zero, List.getElem?_cons_succ]
                    iterate 2 (first | (apply quietO_cons _ rfl; (intro w' _; go_simp; rfl)) | apply quietO_skip rfl)
                    refine hK _ ?_
                    clear hK K
                    simp only [Act.put, List.setIfInBounds_toArray, List.set_cons_zero, List.set_cons_succ]
                    refine wpS_fs rfl (Keeps.refl _ _) fun K hK => ?_
                    simp only [List.map_cons, List.map_nil, Option.getD_some, List.getElem?_toArray, List.getElem?_cons_zero, List.getElem?_cons_succ]
                    iterate 1 (first | (apply quietO_cons _ rfl; (intro w' hs; have c_0 := x0 w' hs; have c_1 := x1 w' hs; have c_2 := x2 w' hs; have c_3 := x3 w' hs; have c_4 := x4 w' hs; have c_5 := x5 w' hs; go_simp; rfl)) | apply quietO_skip rfl)
                    refine hK _ ?_
                    clear hK K
                    simp only [Act.put, List.setIfInBounds_toArray, List.set_cons_zero, List.set_cons_succ]
                    refine wpS_ps rfl fun K hK => ?_
                    simp only [List.map_cons, List.map_nil, Option.getD_some, List.getElem?_toArray, List.getElem?_cons_zero, List.getElem?_cons_succ]
                    iterate 3 (first | (apply quietO_cons _ rfl; (intro w' _; go_simp; rfl)) | apply quietO_skip rfl)
                    refine hK _ ?_
                    clear hK K
                    simp only [Act.put, List.setIfInBounds_toArray, List.set_cons_zero, List.set_cons_succ]
                    refine wpS_fs rfl (Keeps.refl _ _) fun K hK => ?_
                    simp only [List.map_cons, List.map_nil, Option.getD_some, List.getElem?_toArray, List.getElem?_cons_zero, List.getElem?_cons_succ]
                    iterate 1 (first | (apply quietO_cons _ rfl; (intro w' hs; have c_0 := y0 w' hs; have c_1 := y1 w' hs; have c_2 := y2 w' hs; have c_3 := y3 w' hs; have c_4 := y4 w' hs; have c_5 := y5 w' hs; go_simp; rfl)) | apply quietO_skip rfl)
                    refine hK _ ?_
                    clear hK K
                    simp only [Act.put, List.setIfInBounds_toArray, List.set_cons_zero, List.set_cons_succ]
                    refine wpS_ps rfl fun K hK => ?_
                    simp only [List.map_cons, List.map_nil, Option.getD_some, List.getElem?_toArray, List.getElem?_cons_zero, List.getElem?_cons_succ]
                    iterate 2 (first | (apply quietO_cons _ rfl; (intro w' _; go_simp; rfl)) | apply quietO_skip rfl)
                    refine hK _ ?_
                    clear hK K
                    simp only [Act.put, List.setIfInBounds_toArray, List.set_cons_zero, List.set_cons_succ]
                    refine wpS_ps rfl fun K hK => ?_
                    simp only [List.map_cons, List.map_nil, Option.getD_some, List.getElem?_toArray, List.getElem?_cons_zero, List.getElem?_cons_succ]
                    iterate 2 (first | (apply quietO_cons _ rfl; (intro w' _; go_simp; rfl)) | apply quietO_skip rfl)
                    refine hK _ ?_
                    clear hK K
                    simp only [Act.put, List.setIfInBounds_toArray, List.set_cons_zero, List.set_cons_succ]
                    refine wpS_ps rfl fun K hK => ?_
                    simp only [List.map_cons, List.map_nil, Option.getD_some, List.getElem?_toArray, List.getElem?_cons_zero, List.getElem?_cons_succ]
                    iterate 3 (first | (apply quietO_cons _ rfl; (intro w' _; go_simp; rfl)) | apply quietO_skip rfl)
                    refine hK _ ?_
                    clear hK K
                    simp only [Act.put, List.setIfInBounds_toArray, List.set_cons_zero, List.set_cons_succ]
                    refine wpS_ps rfl fun K hK => ?_
                    simp only [List.map_cons, List.map_nil, Option.getD_some, List.getElem?_toArray, List.getElem?_cons_zero, List.getElem?_cons_succ]
                    iterate 3 (first | (apply quietO_cons _ rfl; (intro w' _; go_simp; rfl)) | apply quietO_skip rfl)
                    refine hK _ ?_
                    clear hK K
                    simp only [Act.put, List.setIfInBounds_toArray, List.set_cons_zero, List.set_cons_succ]
                    refine wpS_fs rfl (Keeps.refl _ _) fun K hK => ?_
                    simp only [List.map_cons, List.map_nil, Option.getD_some, List.getElem?_toArray, List.getElem?_cons_zero, List.getElem?_cons_succ]
                    iterate 1 (first | (apply quietO_cons _ rfl; (intro w' hs; go_simp; rfl)) | apply quietO_skip rfl)
                    refine hK _ ?_
                    clear hK K
                    simp only [Act.put, List.setIfInBounds_toArray, List.set_cons_zero, List.set_cons_succ]
                    refine wpS_ps rfl fun K hK => ?_
                    simp only [List.map_cons, List.map_nil, Option.getD_some, List.getElem?_toArray, List.getElem?_cons_zero, List.getElem?_cons_succ]
                    iterate 2 (first | (apply quietO_cons _ rfl; (intro w' _; go_simp; rfl)) | apply quietO_skip rfl)
                    refine hK _ ?_
                    clear hK K
                    simp only [Act.put, List.setIfInBounds_toArray, List.set_cons_zero, List.set_cons_succ]
                    refine wpS_ps rfl fun K hK => ?_
                    simp only [List.map_cons, List.map_nil, Option.getD_some, List.getElem?_toArray, List.getElem?_cons_zero, List.getElem?_cons_succ]
                    iterate 3 (first | (apply quietO_cons _ rfl; (intro w' _; go_simp; rfl)) | apply quietO_skip rfl)
                    refine hK _ ?_
                    clear hK K
                    simp only [Act.put, List.setIfInBounds_toArray, List.set_cons_zero, List.set_cons_succ]
                    refine wpS_nil ?_
                    go_wp2_with fail
                    go_meet
                    case rel => exact ⟨rfl, (Keeps.refl nowhere w6).drew⟩
                  case rest =>
                    obtain ⟨rfl, hkc⟩ := hcut
                    have h7 := H6.out.same hkc
                    have hr7 := Hr6.out.same hkc
                    have hs7 := Hs6.out.same hkc
                    have hbx8 := Blk.keep Hbx6.out hkc (fun h => h)
                    clear hkc a0 a1
                    obtain ⟨a0, a1, -, -, -, -, -, -⟩ := box_cells hbx8
                    have H7 := Lib.hid h7
                    have Hr7 := Lib.hid hr7
                    have Hs7 := Lib.hid hs7
                    clear h7 hr7 hs7
                    have hk0 : (0 : Int) ≤ (k : Int) := by omega
                    have hkN := HkN.out
                    have j1 : (k : Int) ≤ (N : Int) := by omega
                    have j2 : (k : Int) + 1 ≤ (N : Int) := by omega
                    have j3 : (k : Int) ≤ (c4 : Int) := by omega
                    have j4 : (k : Int) ≤ (c5 : Int) := by omega
                    have j5 : (k : Int) + 1 ≤ (c4 : Int) := by omega
                    have j6 : (k : Int) + 1 ≤ (c5 : Int) := by omega
                    have j7 : ((k : Int) + 1).toNat = k + 1 := by omega
                    have j8 : IntKind.i64.wrap ((k : Int) + 1) = k + 1 := IntWalk.i64_in _ (by omega)
                    have j9 : (N : Int) ≤ (c4 : Int) := by omega
                    have j10 : (N : Int) ≤ (c5 : Int) := by omega
                    clear hkN
                    go_upto_region 44 with fail
                    go_cut [4] from 194 to 203 (fun v4 wx => recU4.Row wx v4 ((m.map (·.1)).take k ++ (m.map (·.1)).drop (k + 1)) ∧ Keeps nowhere wc wx)
                    case first =>
                      have kA : Keeps nowhere wc (wc.drew.alloc (.cells #[] 28)) := (Keeps.refl nowhere wc).drew.alloc _
                      have rowA : recU4.Row (wc.drew.alloc (.cells #[] 28)) (.slice (some ⟨wc.heap.size, 0, none⟩) 0 0) [] := RecT.Row.empty recU4 wc.drew
                      have rdA := (Hr7.out.rd.same kA).takeE k (by have := HN.out; have := HkN.out; simp; omega)
                      have hdrop := fun w' (hk : Keeps nowhere wc w') => (Hr7.out.rd.same hk).dropE (k + 1) (by have := HN.out; have := HkN.out; simp; omega)
                      simp only [show (k + 1) * recU4.n = k + 1 from Nat.mul_one _] at hdrop
                      rw [show (fun x : Addr => x.add (k + 1)) = (fun x => ⟨x.block, x.off + (k + 1), none⟩) by funext x; rw [Addr.add, if_neg (by omega)]] at hdrop
                      obtain ⟨VA, hVA⟩ : ∃ VA, VA = (if c4 = k + 1 then A4 else Option.map (fun x => ⟨x.block, x.off + (k + 1), none⟩) A4) := ⟨_, rfl⟩
                      rw [← hVA] at hdrop
                      have hlb1 : ([] : List Nat).length + ((m.map Prod.fst).take k).length ≤ 100000000 := by have := HN.out; have := Hml.out; simp; omega
                      have hlb2 : ((m.map Prod.fst).take k).length + ((m.map Prod.fst).drop (k + 1)).length ≤ 100000000 := by have := HN.out; have := Hml.out; simp; omega
                      have KA := Lib.hid kA
                      have RowA := Lib.hid rowA
                      have RdA := Lib.hid rdA
                      have Hlb1 := Lib.hid hlb1
                      have Hlb2 := Lib.hid hlb2
                      have Hdrop := Lib.hid hdrop
                      have HVA := Lib.hid hVA
                      clear kA rowA rdA hlb1 hlb2 hdrop hVA
                      go_wp2_with fail
                      refine wp_region_script [1, 2, 3, 5, 6, 7, 8] [] [.ps [1, 2, 3], .ps [5, 6, 7, 8], .es [0, 4, 9, 10] false] (fun _ => True) rfl (by kernel_rfl) ?_
                      refine wpS_ps rfl fun K hK => ?_
                      simp only [List.map_cons, List.map_nil, Option.getD_some, List.getElem?_toArray, List.getElem?_cons_zero, List.getElem?_cons_succ]
                      iterate 3 (first | (apply quietO_cons _ rfl; (intro w' _; go_simp; rfl)) | apply quietO_skip rfl)
                      refine hK _ ?_
                      clear hK K
                      simp only [Act.put, List.setIfInBounds_toArray, List.set_cons_zero, List.set_cons_succ]
                      refine wpS_ps rfl fun K hK => ?_
                      simp only [List.map_cons, List.map_nil, Option.getD_some, List.getElem?_toArray, List.getElem?_cons_zero, List.getElem?_cons_succ]
                      iterate 4 (first | (apply quietO_cons _ rfl; (intro w' _; go_simp; rfl)) | apply quietO_skip rfl)
                      refine hK _ ?_
                      clear hK K
                      simp only [Act.put, List.setIfInBounds_toArray, List.set_cons_zero, List.set_cons_succ]
                      rw [← HVA.out]
                      refine wpS_es rfl fun K hK => ?_
                      have HK := Lib.hid hK
                      clear hK
                      simp only [List.map_cons, List.map_nil, Option.getD_some, List.getElem?_toArray, List.getElem?_cons_zero, List.getElem?_cons_succ]
                      go_wp2_with (at_builtin; go_must (refine RecT.wpList_append Try.underlying26 infoU4 rfl (by decide) rfl (.tmp 194) (.tmp 197) rfl _ [] rfl RowA.out _ _ ((m.map Prod.fst).take k) rfl RdA.out Hlb1.out ?_))
                      intro v5 w5 hrow5 hk5 hf5
                      try rw [List.nil_append] at hrow5
                      have hk6 : Keeps nowhere wc w5 := KA.out.trans hk5 (fun b hb e => by simp [Value.ownBlock] at e; omega)
                      have hab5 : Above wc.heap.size v5.ownBlock := fun b hb => by
                        rcases hf5 b hb with h | h
                        · simp [Value.ownBlock] at h; omega
                        · have := KA.out.size; (try simp at this); (try simp at h); omega
                      have hrd := Hdrop.out w5 hk6
                      clear hk5 hf5
                      have Hrow5 := Lib.hid hrow5
                      have Hk6 := Lib.hid hk6
                      have Hab5 := Lib.hid hab5
                      have Hrd := Lib.hid hrd
                      clear hrow5 hk6 hab5 hrd
                      go_wp2_with (at_builtin; go_must (refine RecT.wpList_append Try.underlying26 infoU4 rfl (by decide) rfl (.tmp 198) (.tmp 202) rfl _ ((m.map Prod.fst).take k) rfl Hrow5.out _ _ ((m.map Prod.fst).drop (k + 1)) rfl Hrd.out Hlb2.out ?_))
                      intro v9 w9 hrow9 hk9 hf9
                      have hk10 : Keeps nowhere wc w9 := Hk6.out.trans hk9 (fun b hb e => absurd (Hab5.out b e) (by omega))
                      clear hk9 hf9
                      have Hrow9 := Lib.hid hrow9
                      have Hk10 := Lib.hid hk10
                      clear hrow9 hk10
                      go_wp2_with fail
                      go_wp2_with fail
                      refine HK.out _ _ (fun h => by cases h) ?_
                      clear HK K
                      refine wpS_nil ?_
                      go_wp2_with fail
                      go_meet
                      case rel => exact ⟨Hrow9.out, Hk10.out⟩
                    case rest =>
                      obtain ⟨hr8, hk8⟩ := hcut
                      have h8 := H7.out.same hk8
                      have hs8 := Hs7.out.same hk8
                      clear hk8
                      obtain ⟨A8, c8, rfl, -⟩ := hr8.form
                      obtain ⟨N8, hN8⟩ : ∃ N8, N8 = ((m.map Prod.fst).take k ++ (m.map Prod.fst).drop (k + 1)).length := ⟨_, rfl⟩
                      rw [← hN8] at hr8 ⊢
                      have H8 := Lib.hid h8
                      have Hr8 := Lib.hid hr8
                      have Hs8 := Lib.hid hs8
                      have HN8 := Lib.hid hN8
                      clear h8 hr8 hs8 hN8
                      go_upto_region 45 with fail
                      have kA : Keeps nowhere wc (wc.drew.alloc (.cells #[] 31)) := (Keeps.refl nowhere wc).drew.alloc _
                      have rowA : recF.Row (wc.drew.alloc (.cells #[] 31)) (.slice (some ⟨wc.heap.size, 0, none⟩) 0 0) [] := RecT.Row.empty recF wc.drew
                      have rdA := (Hs8.out.rd.same kA).takeE k (by have := HN.out; have := HkN.out; simp; omega)
                      have hdrop := fun w' (hk : Keeps nowhere wc w') => (Hs8.out.rd.same hk).dropE (k + 1) (by have := HN.out; have := HkN.out; simp; omega)
                      simp only [show (k + 1) * recF.n = (k + 1) * 6 from rfl] at hdrop
                      obtain ⟨VA, hVA⟩ : ∃ VA, VA = (if c5 = k + 1 then A5 else Option.map (fun x => x.add ((k + 1) * 6)) A5) := ⟨_, rfl⟩
                      rw [← hVA] at hdrop
                      have hlb1 : ([] : List FidV).length + ((m.map Prod.snd).take k).length ≤ 100000000 := by have := HN.out; have := Hml.out; simp; omega
                      have hlb2 : ((m.map Prod.snd).take k).length + ((m.map Prod.snd).drop (k + 1)).length ≤ 100000000 := by have := HN.out; have := Hml.out; simp; omega
                      have KA := Lib.hid kA
                      have RowA := Lib.hid rowA
                      have RdA := Lib.hid rdA
                      have Hlb1 := Lib.hid hlb1
                      have Hlb2 := Lib.hid hlb2
                      have Hdrop := Lib.hid hdrop
                      have HVA := Lib.hid hVA
                      clear kA rowA rdA hlb1 hlb2 hdrop hVA
                      go_wp2_with fail
                      refine wp_region_script [1, 2, 3, 5, 6, 7, 8] [] [.ps [1, 2, 3], .ps [5, 6, 7, 8], .es [0, 4, 9, 10] false] (fun _ => True) rfl (by kernel_rfl) ?_
                      refine wpS_ps rfl fun K hK => ?_
                      simp only [List.map_cons, List.map_nil, Option.getD_some, List.getElem?_toArray, List.getElem?_cons_zero, List.getElem?_cons_succ]
                      iterate 3 (first | (apply quietO_cons _ rfl; (intro w' _; go_simp; rfl)) | apply quietO_skip rfl)
                      refine hK _ ?_
                      clear hK K
                      simp only [Act.put, List.setIfInBounds_toArray, List.set_cons_zero, List.set_cons_succ]
                      refine wpS_ps rfl fun K hK => ?_
                      simp only [List.map_cons, List.map_nil, Option.getD_some, List.getElem?_toArray, List.getElem?_cons_zero, List.getElem?_cons_succ]
                      iterate 4 (first | (apply quietO_cons _ rfl; (intro w' _; go_simp; rfl)) | apply quietO_skip rfl)
                      refine hK _ ?_
                      clear hK K
                      simp only [Act.put, List.setIfInBounds_toArray, List.set_cons_zero, List.set_cons_succ]
                      rw [← HVA.out]
                      refine wpS_es rfl fun K hK => ?_
                      have HK := Lib.hid hK
                      clear hK
                      simp only [List.map_cons, List.map_nil, Option.getD_some, List.getElem?_toArray, List.getElem?_cons_zero, List.getElem?_cons_succ]
                      go_wp2_with (at_builtin; go_must (refine RecT.wpList_append Try.underlying27 infoFd rfl (by decide) rfl (.tmp 204) (.tmp 207) rfl _ [] rfl RowA.out _ _ ((m.map Prod.snd).take k) rfl RdA.out Hlb1.out ?_))
                      intro v5 w5 hrow5 hk5 hf5
                      try rw [List.nil_append] at hrow5
                      have hk6 : Keeps nowhere wc w5 := KA.out.trans hk5 (fun b hb e => by simp [Value.ownBlock] at e; omega)
                      have hab5 : Above wc.heap.size v5.ownBlock := fun b hb => by
                        rcases hf5 b hb with h | h
                        · simp [Value.ownBlock] at h; omega
                        · have := KA.out.size; (try simp at this); (try simp at h); omega
                      have hrd := Hdrop.out w5 hk6
                      clear hk5 hf5
                      have Hrow5 := Lib.hid hrow5
                      have Hk6 := Lib.hid hk6
                      have Hab5 := Lib.hid hab5
                      have Hrd := Lib.hid hrd
                      clear hrow5 hk6 hab5 hrd
                      go_wp2_with (at_builtin; go_must (refine RecT.wpList_append Try.underlying27 infoFd rfl (by decide) rfl (.tmp 208) (.tmp 212) rfl _ ((m.map Prod.snd).take k) rfl Hrow5.out _ _ ((m.map Prod.snd).drop (k + 1)) rfl Hrd.out Hlb2.out ?_))
                      intro v9 w9 hrow9 hk9 hf9
                      have hk10 : Keeps nowhere wc w9 := Hk6.out.trans hk9 (fun b hb e => absurd (Hab5.out b e) (by omega))
                      clear hk9 hf9
                      have Hrow9 := Lib.hid hrow9
                      have Hk10 := Lib.hid hk10
                      clear hrow9 hk10
                      go_wp2_with fail
                      go_wp2_with fail
                      refine HK.out _ _ (fun h => by cases h) ?_
                      clear HK K
                      refine wpS_nil ?_
                      go_wp2_with fail
                      go_meet
                      case rel => exact ⟨_, stand_outs (H8.out.same Hk10.out) (Hr8.out.same Hk10.out) Hrow9.out, by have := Hml.out; rw [HN.out] at this; simp; omega⟩
                · have hE : getE m X = 8 := by rw [getE, hln]; rfl
                  have hF : getF m X = FidV.zero := by rw [getF, hln]; rfl
                  have hE2 := Lib.hid hE
                  have hD := Lib.hid (delM_none (PosOf.none Hpos.out Hst7.out.q.t.2.2 htn))
                  have Hml := Lib.hid hml
                  have HX := Lib.hid hX
                  have Htn := Lib.hid htn
                  have Hln := Lib.hid hln
                  clear hml hX htn hln
                  clear a2 a3 a4 a5 a6 a7
                  go_wp2_with fail
                  refine (own_fget X Hst7.out.q HX.out).mono ?_
                  rintro e w3 ⟨rfl, h3, hk3⟩
                  rw [hE, hF]
                  have hst3 := Hst7.out.same hk3
                  have hbx3 := Blk.keep Hbx7.out hk3 (fun h => h)
                  obtain ⟨w4, hw4⟩ : ∃ w4, w4 = w3.alloc (.cells (FidV.cs FidV.zero).toArray 31) := ⟨_, rfl⟩
                  obtain ⟨fb, hfb⟩ : ∃ fb, fb = w3.heap.size := ⟨_, rfl⟩
                  have hbf : Blk w4 fb 31 (FidV.cs FidV.zero).toArray := by rw [hw4, hfb]; exact Blk.new _ _ _
                  have hk4 : Keeps nowhere w3 w4 := by rw [hw4]; exact (Keeps.refl nowhere w3).alloc _
                  have hst4 := hst3.same hk4
                  have hbx4 := Blk.keep hbx3 hk4 (fun h => h)
                  have hfbb : b < fb := by rw [hfb]; exact hst3.q.t.lt.2
                  have hfbp : p < fb := by rw [hfb]; exact hst3.q.t.lt.1
                  have hqfb : q < fb := by rw [hfb]; exact hbx3.lt
                  have hrfb := hst3.r.lt
                  rw [← hfb] at hrfb
                  have hfw : w.heap.size ≤ fb := Nat.le_trans hst3.q.lob (Nat.le_of_lt hfbb)
                  simp only [FidV.cs, FidV.zero, FidV.v] at hw4 ⊢
                  (try simp only [Int.natCast_zero] at hw4 ⊢)
                  clear hk3 hst3 hbx3 h3 hE hk4
                  have Hst4 := Lib.hid hst4
                  have Hbx4 := Lib.hid hbx4
                  have Hbf := Lib.hid hbf
                  have Hw4 := Lib.hid hw4
                  have Hfb := Lib.hid hfb
                  have Hfbb := Lib.hid hfbb
                  have Hfbp := Lib.hid hfbp
                  have Hqfb := Lib.hid hqfb
                  have Hfw := Lib.hid hfw
                  have Hrfb := Lib.hid hrfb
                  have HF := Lib.hid hF
                  clear hst4 hbx4 hbf hw4 hfb hfbb hfbp hqfb hfw hrfb hF
                  go_upto_region 39 with fail
                  rw [← Hw4.out]
                  simp only [← Hfb.out]
                  clear Hw4 Hfb a0 a1
                  obtain ⟨a0, a1, -, -, -, -, -, -⟩ := box_cells Hbx4.out
                  go_wp2_with fail
                  refine (own_fdrop X Hst4.out.q HX.out (by have := HN.out; have := Hml.out; omega)).mono ?_
                  rintro e w5 ⟨rfl, h5, hk5⟩
                  rw [hE2.out, HF.out]
                  rw [hD.out] at h5
                  obtain ⟨hr5, hs5⟩ := Hst4.out.rows hk5
                  have hbx5 := Blk.keep Hbx4.out hk5 (ActBox20.ne Hbx4.out Hst4.out.q.t.2)
                  have hbf5 := Blk.keep Hbf.out hk5 (fun e => by have := Hfbb.out; have e2 : fb = b := e; omega)
                  obtain ⟨w6, hw6⟩ : ∃ w6, w6 = w5.setCells fb 0 (FidV.cs FidV.zero) := ⟨_, rfl⟩
                  obtain ⟨hbf6, hk6⟩ := box_again hbf5
                  rw [← hw6] at hbf6 hk6
                  obtain ⟨y0, y1, y2, y3, y4, y5⟩ := fbox_cells hbf5
                  have z0 := fun k => hbf5.frozen k
                  have h6 := h5.aside hk6 Hfw.out (by have := Hfbp.out; omega) (by have := Hfbb.out; omega)
                  have hr6 := hr5.keep hk6 (fun b' e1 e2 => row_ne_blk hr5 hbf5 (by decide) (by rw [e1]; exact congrArg some e2))
                  have hs6 := hs5.keep hk6 (fun b' e1 e2 => by have := Hrfb.out b' e1; have e3 : b' = fb := e2; omega)
                  have hbx6 := Blk.keep hbx5 hk6 (fun e => by have := Hqfb.out; have e2 : q = fb := e; omega)
                  clear a0 a1 hk5 h5 hr5 hs5 hbx5 hbf5 hk6 Hbx4 Hbf hD hE2
                  obtain ⟨a0, a1, -, -, -, -, -, -⟩ := box_cells hbx6
                  simp only [FidV.cs, FidV.zero, FidV.v, World.setCells] at hw6 y0 y1 y2 y3 y4 y5 ⊢
                  (try simp only [Int.natCast_zero] at hw6 y0 y1 y2 y3 y4 y5 ⊢)
                  have H6 := Lib.hid h6
                  have Hr6 := Lib.hid hr6
                  have Hs6 := Lib.hid hs6
                  have Hbx6 := Lib.hid hbx6
                  have Hbf6 := Lib.hid hbf6
                  have Hw6 := Lib.hid hw6
                  clear h6 hr6 hs6 hbx6 hbf6 hw6
                  go_upto_region 41 with fail
                  rw [← Hw6.out]
                  clear y0 y1 y2 y3 y4 y5 z0 Hw6
                  go_cut [187] from 162 to 187 (fun tv wx => tv = .bool false ∧ Keeps nowhere w6 wx)
                  case first =>
                    have fcs : ∀ j w', Keeps nowhere w6.drew w' → w'.cell? ⟨fb, j, none⟩ = (FidV.cs FidV.zero)[j]? := fun j w' hs => by
                      rw [(Blk.keep (S := nowhere) Hbf6.out ((Keeps.refl nowhere w6).drew.more hs) (fun h => h)).cell]; simp
                    have x0 := fcs 0
                    have x1 := fcs 1
                    have x2 := fcs 2
                    have x3 := fcs 3
                    have x4 := fcs 4
                    have x5 := fcs 5
                    simp only [FidV.cs, FidV.zero, List.getElem?_cons_zero, List.getElem?_cons_succ] at x0 x1 x2 x3 x4 x5
                    (try simp only [Int.natCast_zero] at x0 x1 x2 x3 x4 x5)
                    clear fcs
                    go_wp2_with fail
                    refine wp_region_script [0, 1, 2, 3, 4, 5, 6, 7, 8, 9, 10, 11, 12, 13, 14, 15, 16, 17, 18, 19, 20, 21, 22, 23, 24, 25] [5, 9, 20] [.ps [0, 1, 2], .ps [3, 4], .fs [5], .ps [6, 7, 8], .fs [9], .ps [10, 11], .ps [12, 13], .ps [14, 15, 16], .ps [17, 18, 19], .fs [20], .ps [21, 22], .ps [23, 24, 25]] (Keeps nowhere w6.drew) rfl (by kernel_rfl) ?_
                    refine wpS_ps rfl fun K hK => ?_
                    simp only [List.map_cons, List.map_nil, Option.getD_some, List.getElem?_toArray, List.getElem?_cons_zero, List.getElem?_cons_succ]
                    iterate 3 (first | (apply quietO_cons _ rfl; (intro w' _; go_simp; rfl)) | apply quietO_skip rfl)
                    refine hK _ ?_
                    clear hK K
                    simp only [Act.put, List.setIfInBounds_toArray, List.set_cons_zero, List.set_cons_succ]
                    refine wpS_ps rfl fun K hK => ?_
                    simp only [List.map_cons, List.map_nil, Option.getD_some, List.getElem?_toArray, List.getElem?_cons_zero, List.getElem?_cons_succ]
                    iterate 2 (first | (apply quietO_cons _ rfl; (intro w' _; go_simp; rfl)) | apply quietO_skip rfl)
                    refine hK _ ?_
                    clear hK K
                    simp only [Act.put, List.setIfInBounds_toArray, List.set_cons_zero, List.set_cons_succ]
                    refine wpS_fs rfl (Keeps.refl _ _) fun K hK => ?_
                    simp only [List.map_cons, List.map_nil, Option.getD_some, List.getElem?_toArray, List.getElem?_cons_zero, List.getElem?_cons_succ]
                    iterate 1 (first | (apply quietO_cons _ rfl; (intro w' hs; go_simp; rfl)) | apply quietO_skip rfl)
                    refine hK _ ?_
                    clear hK K
                    simp only [Act.put, List.setIfInBounds_toArray, List.set_cons_zero, List.set_cons_succ]
                    refine wpS_ps rfl fun K hK => ?_
                    simp only [List.map_cons, List.map_nil, Option.getD_some, List.getElem?_toArray, List.getElem?_cons_zero, List.getElem?_cons_succ]
                    iterate 3 (first | (apply quietO_cons _ rfl; (intro w' _; go_simp; rfl)) | apply quietO_skip rfl)
                    refine hK _ ?_
                    clear hK K
                    simp only [Act.put, List.setIfInBounds_toArray, List.set_cons_zero, List.set_cons_succ]
                    refine wpS_fs rfl (Keeps.refl _ _) fun K hK => ?_
                    simp only [List.map_cons, List.map_nil, Option.getD_some, List.getElem?_toArray, List.getElem?_cons_zero, List.getElem?_cons_succ]
                    iterate 1 (first | (apply quietO_cons _ rfl; (intro w' hs; go_simp; rfl)) | apply quietO_skip rfl)
                    refine hK _ ?_
                    clear hK K
                    simp only [Act.put, List.setIfInBounds_toArray, List.set_cons_zero, List.set_cons_succ]
                    refine wpS_ps rfl fun K hK => ?_
                    simp only [List.map_cons, List.map_nil, Option.getD_some, List.getElem?_toArray, List.getElem?_cons_zero, List.getElem?_cons_succ]
                    iterate 2 (first | (apply quietO_cons _ rfl; (intro w' _; go_simp; rfl)) | apply quietO_skip rfl)
                    refine hK _ ?_
                    clear hK K
                    simp only [Act.put, List.setIfInBounds_toArray, List.set_cons_zero, List.set_cons_succ]
                    refine wpS_ps rfl fun K hK => ?_
                    simp only [List.map_cons, List.map_nil, Option.getD_some, List.getElem?_toArray, List.getElem?_cons_zero, List.getElem?_cons_succ]
                    iterate 2 (first | (apply quietO_cons _ rfl; (intro w' _; go_simp; rfl)) | apply quietO_skip rfl)
                    refine hK _ ?_
                    clear hK K
                    simp only [Act.put, List.setIfInBounds_toArray, List.set_cons_zero, List.set_cons_succ]
                    refine wpS_ps rfl fun K hK => ?_
                    simp only [List.map_cons, List.map_nil, Option.getD_some, List.getElem?_toArray, List.getElem?_cons_zero, List.getElem?_cons_succ]
                    iterate 3 (first | (apply quietO_cons _ rfl; (intro w' _; go_simp; rfl)) | apply quietO_skip rfl)
                    refine hK _ ?_
                    clear hK K
                    simp only [Act.put, List.setIfInBounds_toArray, List.set_cons_zero, List.set_cons_succ]
                    refine wpS_ps rfl fun K hK => ?_
                    simp only [List.map_cons, List.map_nil, Option.getD_some, List.getElem?_toArray, List.getElem?_cons_zero, List.getElem?_cons_succ]
                    iterate 3 (first | (apply quietO_cons _ rfl; (intro w' _; go_simp; rfl)) | apply quietO_skip rfl)
                    refine hK _ ?_
                    clear hK K
                    simp only [Act.put, List.setIfInBounds_toArray, List.set_cons_zero, List.set_cons_succ]
                    refine wpS_fs rfl (Keeps.refl _ _) fun K hK => ?_
                    simp only [List.map_cons, List.map_nil, Option.getD_some, List.getElem?_toArray, List.getElem?_cons_zero, List.getElem?_cons_succ]
                    iterate 1 (first | (apply quietO_cons _ rfl; (intro w' hs; have c_0 := x0 w' hs; have c_1 := x1 w' hs; have c_2 := x2 w' hs; have c_3 := x3 w' hs; have c_4 := x4 w' hs; have c_5 := x5 w' hs; go_simp; rfl)) | apply quietO_skip rfl)
                    refine hK _ ?_
                    clear hK K
                    simp only [Act.put, List.setIfInBounds_toArray, List.set_cons_zero, List.set_cons_succ]
                    refine wpS_ps rfl fun K hK => ?_
                    simp only [List.map_cons, List.map_nil, Option.getD_some, List.getElem?_toArray, List.getElem?_cons_zero, List.getElem?_cons_succ]
                    iterate 2 (first | (apply quietO_cons _ rfl; (intro w' _; go_simp; rfl)) | apply quietO_skip rfl)
                    refine hK _ ?_
                    clear hK K
                    simp only [Act.put, List.setIfInBounds_toArray, List.set_cons_zero, List.set_cons_succ]
                    refine wpS_ps rfl fun K hK => ?_
                    simp only [List.map_cons, List.map_nil, Option.getD_some, List.getElem?_toArray, List.getElem?_cons_zero, List.getElem?_cons_succ]
                    iterate 3 (first | (apply quietO_cons _ rfl; (intro w' _; go_simp; rfl)) | apply quietO_skip rfl)
                    refine hK _ ?_
                    clear hK K
                    simp only [Act.put, List.setIfInBounds_toArray, List.set_cons_zero, List.set_cons_succ]
                    refine wpS_nil ?_
                    go_wp2_with fail
                    go_meet
                    case rel => exact ⟨rfl, (Keeps.refl nowhere w6).drew⟩
                  case rest =>
                    obtain ⟨rfl, hkc⟩ := hcut
                    have h7 := H6.out.same hkc
                    have hr7 := Hr6.out.same hkc
                    have hs7 := Hs6.out.same hkc
                    have hbx8 := Blk.keep Hbx6.out hkc (fun h => h)
                    clear hkc a0 a1
                    obtain ⟨a0, a1, -, -, -, -, -, -⟩ := box_cells hbx8
                    have H7 := Lib.hid h7
                    have Hr7 := Lib.hid hr7
                    have Hs7 := Lib.hid hs7
                    clear h7 hr7 hs7
                    go_wp2_with fail
                    go_meet
                    case rel => exact ⟨m, ⟨H7.out, Hr7.out, Hs7.out⟩, by have := Hml.out; rw [HN.out] at this; omega⟩
            as_aux_lemma =>
              have e1 : (o == 1) = false := by simp [o1]
              have e2 : (o == 2) = false := by simp [o2]
              have e3 : (o == 3) = false := by simp [o3]
              have e4 : (o == 4) = false := by simp [o4]
              clear a1 a2 a3 a4 a5 a6 a7 htc
              have Hml := Lib.hid hml
              clear hml
              go_wp2_with fail
              go_meet
              case rel => exact ⟨m, Hst7.out, by have := Hml.out; rw [HN.out] at this; omega⟩
          case rest =>
            as_aux_lemma =>
              obtain ⟨m2, hst, hml2⟩ := hcut
              obtain ⟨A8, c8, rfl, -⟩ := hst.i.form
              obtain ⟨A9, c9, rfl, -⟩ := hst.r.form
              obtain ⟨M, hM⟩ : ∃ M, M = m2.length := ⟨_, rfl⟩
              rw [List.length_map, ← hM] at hst ⊢
              rw [List.length_map, ← hM] at hst ⊢
              rw [← hM] at hml2
              have Hst := Lib.hid hst
              have HM := Lib.hid hM
              clear hst hM
              go_wp2_with fail
              refine (own_fall Hst.out.q (by have := HM.out; omega)).mono ?_
              rintro e w7 ⟨v7, gb7, rfl, hr7, hq7, hk7⟩
              obtain ⟨B7, e7, rfl⟩ := rdU4_form hr7
              rw [List.length_map, ← HM.out] at hr7 ⊢
              have hst8 := Hst.out.same hk7
              have hMM : ((M : Int) != (M : Int)) = false := by simp
              clear hq7 hk7
              have Hr7 := Lib.hid hr7
              have Hst8 := Lib.hid hst8
              clear hr7 hst8
              go_wp2_with fail
              go_loopw [14] (fun kv wx => ∃ k : Nat, kv = .int .i64 k ∧ k ≤ M ∧ Keeps nowhere w7 wx) (fun kv _ => M - (intOf kv).toNat)
              case atStart => exact ⟨0, rfl, Nat.zero_le _, Keeps.refl _ _⟩
              case round =>
                obtain ⟨k, rfl, hkK, hkx⟩ := hrel
                by_cases hkl : k < M
                · have hkI : (k : Int) < M := by omega
                  have hk0 : (0 : Int) ≤ (k : Int) := by omega
                  have hk1 : IntKind.i64.wrap ((k : Int) + 1) = k + 1 := IntWalk.i64_in _ (by omega)
                  obtain ⟨y, hy⟩ : ∃ y, (m2.map (·.1))[k]? = some y := ⟨_, List.getElem?_eq_getElem (by rw [List.length_map, ← HM.out]; exact hkl)⟩
                  obtain ⟨b7, f7, c7b, hv7, -, -, hx7⟩ := rdU4_at (Hr7.out.same hkx) (by rw [List.length_map]; have := HM.out; omega)
                  obtain ⟨b6, f6, c6b, hv6, -, -, hx6⟩ := rdU4_at (Hst8.out.i.rd.same hkx) (by rw [List.length_map]; have := HM.out; omega)
                  injection hv7 with hA7 hn7 hc7
                  injection hv6 with hA6 hn6 hc6
                  clear hn7 hc7 hn6 hc6
                  subst hA7 hA6
                  have x7 := hx7 k y hy
                  have x6 := hx6 k y hy
                  have X7 : ∀ w', w' = wr.drew → w'.cell? ⟨b7, f7 + k, none⟩ = some (.int .u32 y) := fun w' e => by rw [e]; exact x7
                  have X6 : ∀ w', w' = wr.drew → w'.cell? ⟨b6, f6 + k, none⟩ = some (.int .u32 y) := fun w' e => by rw [e]; exact x6
                  have hyy : ((y : Int) != (y : Int)) = false := by simp
                  clear x7 x6 hx7 hx6
                  have Hkx := Lib.hid hkx
                  have Hy := Lib.hid hy
                  clear hkx hy
                  go_wp2_with fail
                  refine wp_region_script [0, 1, 2, 3, 4, 5, 6, 7, 8] [3, 7] [.ps [0, 1, 2], .fs [3], .ps [4, 5, 6], .fs [7], .ps [8]] (fun w' => w' = wr.drew) rfl (by kernel_rfl) ?_
                  refine wpS_ps rfl fun K hK => ?_
                  simp only [List.map_cons, List.map_nil, Option.getD_some, List.getElem?_toArray, List.getElem?_cons_zero, List.getElem?_cons_succ]
                  iterate 3 (first | (apply quietO_cons _ rfl; (intro w' _; go_simp; rfl)) | apply quietO_skip rfl)
                  refine hK _ ?_
                  clear hK K
                  simp only [Act.put, List.setIfInBounds_toArray, List.set_cons_zero, List.set_cons_succ]
                  refine wpS_fs rfl (rfl) fun K hK => ?_
                  simp only [List.map_cons, List.map_nil, Option.getD_some, List.getElem?_toArray, List.getElem?_cons_zero, List.getElem?_cons_succ]
                  iterate 1 (first | (apply quietO_cons _ rfl; (intro w' hs; have c_0 := X7 w' hs; go_simp; rfl)) | apply quietO_skip rfl)
                  refine hK _ ?_
                  clear hK K
                  simp only [Act.put, List.setIfInBounds_toArray, List.set_cons_zero, List.set_cons_succ]
                  refine wpS_ps rfl fun K hK => ?_
                  simp only [List.map_cons, List.map_nil, Option.getD_some, List.getElem?_toArray, List.getElem?_cons_zero, List.getElem?_cons_succ]
                  iterate 3 (first | (apply quietO_cons _ rfl; (intro w' _; go_simp; rfl)) | apply quietO_skip rfl)
                  refine hK _ ?_
                  clear hK K
                  simp only [Act.put, List.setIfInBounds_toArray, List.set_cons_zero, List.set_cons_succ]
                  refine wpS_fs rfl (rfl) fun K hK => ?_
                  simp only [List.map_cons, List.map_nil, Option.getD_some, List.getElem?_toArray, List.getElem?_cons_zero, List.getElem?_cons_succ]
                  iterate 1 (first | (apply quietO_cons _ rfl; (intro w' hs; have c_0 := X6 w' hs; go_simp; rfl)) | apply quietO_skip rfl)
                  refine hK _ ?_
                  clear hK K
                  simp only [Act.put, List.setIfInBounds_toArray, List.set_cons_zero, List.set_cons_succ]
                  refine wpS_ps rfl fun K hK => ?_
                  simp only [List.map_cons, List.map_nil, Option.getD_some, List.getElem?_toArray, List.getElem?_cons_zero, List.getElem?_cons_succ]
                  iterate 1 (first | (apply quietO_cons _ rfl; (intro w' _; go_simp; rfl)) | apply quietO_skip rfl)
                  refine hK _ ?_
                  clear hK K
                  simp only [Act.put, List.setIfInBounds_toArray, List.set_cons_zero, List.set_cons_succ]
                  refine wpS_nil ?_
                  go_wp2_with fail
                  go_roundw
                  case rel => exact ⟨k + 1, by simp, by omega, Hkx.out.drew⟩
                  case measure => simp [intOf]; omega
                · obtain rfl : M = k := by omega
                  have hstf := Hst8.out.same hkx
                  have hkI : ¬ (M : Int) < M := by omega
                  have Hstf := Lib.hid hstf
                  have Hkx := Lib.hid hkx
                  clear hstf hkx
                  go_wp2_with fail
                  go_roundw
                  case rel => exact ⟨i + 1, m2, by simp, by omega, Hstf.out, by have := HM.out; omega⟩
                  case measure => simp [intOf]; omega
    · obtain rfl : i = L := by omega
      have hiI : ¬ (i : Int) < i := by omega
      go_wp2_with fail
      go_ret
      exact ⟨rfl, hst.q.k⟩
end Go.Proofs.Ytnddaildicmneaa
