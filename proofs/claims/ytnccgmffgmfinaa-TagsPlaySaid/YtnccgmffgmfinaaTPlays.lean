/-
  loggialaw21.TagsPlay: the walk. (wip/gen_tplays.py wrote it.)
-/
import Derived.Test.YtnccgmffgmfinaaT8
import Derived.Test.YtnccgmffgmfinaaTree
import Derived.Deep.CutBlock
import Derived.Deep.CutRange
import Derived.BigQuiet
namespace Go.Proofs.Ytnccgmffgmfinaa
open Go.RowKit Go.Shelf

set_option maxRecDepth 20000 in
theorem tplays_long (A : Option Addr) (L c old : Nat) (w : World) (h120 : 120 < L) (hlen : L ≤ 9223372036854775807) : Calls Try.prog 11 #[.slice A L c, .int .u16 old] w (YesT w) := by
  have h120' : (120 : Int) < L := by omega
  go_enter Try.func11, Try.ntmps11
  go_wp2_with fail
  refine (known21 _).mono ?_
  rintro e w0 ⟨rfl, hk0⟩
  have Hk0 := Lib.hid hk0
  clear hk0
  go_wp2_with fail
  go_ret
  exact ⟨rfl, Hk0.out⟩

set_option maxRecDepth 20000 in
set_option maxHeartbeats 16000000 in
theorem tplays_any (A : Option Addr) (l : List Act21) (c old : Nat) (w : World) (hA : Act21Arr w A l) (h120 : ¬ 120 < l.length) : Calls Try.prog 11 #[.slice A l.length c, .int .u16 old] w (YesT w) := by
  obtain ⟨L, hL⟩ : ∃ L, L = l.length := ⟨_, rfl⟩
  rw [← hL] at h120 ⊢
  have h120' : ¬ (120 : Int) < L := by omega
  have HA := Lib.hid hA
  have HL := Lib.hid hL
  clear hA hL
  go_enter Try.func11, Try.ntmps11
  go_wp2_with fail
  refine (known21 _).mono ?_
  rintro e w0 ⟨rfl, hk0⟩
  go_wp2_with fail
  refine (own_tnew w _ hk0).mono ?_
  rintro e w1 ⟨p, rfl, h1⟩
  clear hk0
  unfold tp
  have hst : StandT w w1 p none none [] [] (.slice none 0 0) (.slice none 0 0) := ⟨h1, RecT.Row.nil _ _, RecT.Row.nil _ _, fun b hb => by simp [Value.ownBlock] at hb, fun b hb => by simp [Value.ownBlock] at hb, List.nodup_nil, by simp⟩
  have H1 := Lib.hid h1
  have Hst := Lib.hid hst
  clear h1 hst
  go_wp2_with fail
  go_loopw [6, 7, 8] (fun rv wv iv wr => ∃ (i : Nat) (g h : Option Nat) (ts : List Nat) (ws : List (Nat × Nat)), iv = .int .i64 i ∧ i ≤ L ∧ StandT w wr p g h ts ws rv wv ∧ ws.length ≤ i) (fun _ _ iv _ => L - (intOf iv).toNat)
  case atStart => exact ⟨0, none, none, [], [], rfl, Nat.zero_le _, Hst.out, Nat.le_refl _⟩
  case round =>
    clear Hst H1
    obtain ⟨i, g, h, ts, ws, rfl, hi, hst, hwl⟩ := hrel
    obtain ⟨A6, c6, rfl, -⟩ := hst.r.form
    obtain ⟨A7, c7, rfl, -⟩ := hst.l.form
    obtain ⟨R, hR⟩ : ∃ R, R = ts.length := ⟨_, rfl⟩
    obtain ⟨W, hW⟩ : ∃ W, W = ws.length := ⟨_, rfl⟩
    have hn32 := hst.n32
    rw [← hR, ← hW] at hst
    rw [← hR] at hn32 ⊢
    rw [← hW] at hwl ⊢
    by_cases hlt : i < L
    · have hltI : (i : Int) < L := by omega
      have hi0 : (0 : Int) ≤ (i : Int) := by omega
      have hi1 : IntKind.i64.wrap ((i : Int) + 1) = i + 1 := IntWalk.i64_in _ (by omega)
      obtain ⟨b, off, rfl, hbw, hcells⟩ := HA.out (by rw [← HL.out]; omega)
      obtain ⟨⟨o, X, O⟩, ht⟩ : ∃ t, l[i]? = some t := ⟨l[i]'(by rw [← HL.out]; exact hlt), List.getElem?_eq_getElem _⟩
      obtain ⟨hok, d0, d1, d2⟩ := hcells i _ ht
      have hkc : ∀ a v, w.cell? ⟨b, a, none⟩ = some v → wr.cell? ⟨b, a, none⟩ = some v := fun a v h => (hst.q.k.cell (p := ⟨b, a, none⟩) hbw (fun h => h)).trans h
      have d0 : wr.cell? ⟨b, off + i * 3, none⟩ = some (.int .i64 o) := hkc _ _ d0
      have d1 : wr.cell? ⟨b, off + i * 3 + 1, none⟩ = some (.int .u16 X) := hkc _ _ d1
      have d2 : wr.cell? ⟨b, off + i * 3 + 2, none⟩ = some (.int .u16 O) := hkc _ _ d2
      obtain ⟨w5, hw5⟩ : ∃ w5, w5 = wr.alloc (.cells #[.int .i64 o, .int .u16 X, .int .u16 O] 69) := ⟨_, rfl⟩
      have hk5 : Keeps nowhere wr w5 := by rw [hw5]; exact (Keeps.refl nowhere wr).alloc _
      obtain ⟨q, hq⟩ : ∃ q, q = wr.heap.size := ⟨_, rfl⟩
      have hbx : ActBox21 w5 q ⟨o, X, O⟩ := by rw [hw5, hq]; exact Blk.new _ _ _
      have hst1 := hst.same hk5
      obtain ⟨K, hK⟩ : ∃ K, K = idxR (fun y => y == X) ts := ⟨_, rfl⟩
      have hat := lat_any _ _ ts X w5 hst1.r.rd (by omega)
      rw [← hK] at hat
      have a1 := hbx.cells.2.1
      simp only at a1
      rw [hw5, hq] at a1
      clear hcells hok hkc ht
      have Hst := Lib.hid hst
      have Hst1 := Lib.hid hst1
      have Hbx := Lib.hid hbx
      have HR := Lib.hid hR
      have HW := Lib.hid hW
      have Hw5 := Lib.hid hw5
      have Hq := Lib.hid hq
      have Hat := Lib.hid hat
      have Hk5 := Lib.hid hk5
      have HK := Lib.hid hK
      clear hst hst1 hbx hR hW hw5 hq hat hk5 hK
      go_wp2_with fail
      rw [← Hw5.out]
      simp only [← Hq.out]
      clear a1 d0 d1 d2
      refine Hat.out.mono ?_
      rintro e w6 ⟨rfl, hk6⟩
      have hst6 := Hst1.out.same hk6
      have hbx6 := Hbx.out.same hk6
      obtain ⟨a0, a1, a2⟩ := hbx6.cells
      simp only at a0 a1 a2
      have Hst6 := Lib.hid hst6
      have Hbx6 := Lib.hid hbx6
      have Hk6 := Lib.hid hk6
      clear hst6 hbx6 hk6
      clear Hst Hst1 Hbx Hw5 Hk5 Hat
      go_upto_block 2 with fail
      go_cut [6, 7] from 23 to 163 (fun rv2 wv2 wx => ∃ (g2 h2 : Option Nat) (ts2 : List Nat) (ws2 : List (Nat × Nat)), StandT w wx p g2 h2 ts2 ws2 rv2 wv2 ∧ ws2.length ≤ i + 1 ∧ ActBox21 wx q ⟨o, X, O⟩)
      case first =>
        by_cases o1 : o = 1
        · as_aux_lemma =>
            subst o1
            rcases idx_case ts X with ⟨hc, hK1⟩ | ⟨i0, -, -, hK1, hc⟩
            · rw [← HK.out] at hK1
              subst hK1
              by_cases h32 : 32 ≤ R
              · have hE : askE ts X = 14 := by rw [askE, hc, if_neg (by simp), if_pos (by have := HR.out; omega)]
                have hLs : askL ts X = ts := by rw [askL, if_neg (by rw [hE]; decide)]
                have h32I : (32 : Int) ≤ R := by omega
                go_wp2_with fail
                refine (own_ask X Hst6.out.q (by have := HR.out; omega)).mono ?_
                rintro e w3 ⟨rfl, g', h3, hk3, hf3⟩
                rw [hE]
                rw [hLs] at h3
                obtain ⟨hr3, hl3, hnr3, hnl3⟩ := Hst6.out.rows hk3 hf3 (From.refl _ _)
                have hbx3 := Hbx6.out.keep3 Hst6.out.q hk3
                clear a0 a1 a2 hE hLs
                have H3 := Lib.hid h3
                have Hk3 := Lib.hid hk3
                have Hf3 := Lib.hid hf3
                have Hr3 := Lib.hid hr3
                have Hl3 := Lib.hid hl3
                have Hnr3 := Lib.hid hnr3
                have Hnl3 := Lib.hid hnl3
                have Hbx3 := Lib.hid hbx3
                have Hc := Lib.hid hc
                clear h3 hk3 hf3 hr3 hl3 hnr3 hnl3 hbx3 hc
                go_wp2_with fail
                go_meet
                case rel => exact ⟨g', h, ts, ws, ⟨H3.out, Hr3.out, Hl3.out, Hnr3.out, Hnl3.out, Hst6.out.nd, Hst6.out.n32⟩, by have := HW.out; omega, Hbx3.out⟩
              · have hE : askE ts X = 0 := by rw [askE, hc, if_neg (by simp), if_neg (by have := HR.out; omega)]
                have hLs : askL ts X = ts ++ [X] := by rw [askL, if_pos hE]
                have h32I : ¬ (32 : Int) ≤ R := by omega
                go_wp2_with fail
                refine (own_ask X Hst6.out.q (by have := HR.out; omega)).mono ?_
                rintro e w3 ⟨rfl, g', h3, hk3, hf3⟩
                rw [hE]
                rw [hLs] at h3
                obtain ⟨hr3, hl3, hnr3, hnl3⟩ := Hst6.out.rows hk3 hf3 (From.refl _ _)
                have hbx3 := Hbx6.out.keep3 Hst6.out.q hk3
                clear a0 a1 a2 hE hLs
                have q1 : ∀ w', Keeps nowhere w3.drew w' → w'.cell? ⟨q, 1, none⟩ = some (.int .u16 X) := fun w' hs => by simpa using ((Blk.drew hbx3).keep hs (fun h => h)).cell 1
                have kA : Keeps nowhere w3 (w3.drew.alloc (.cells #[] 43)) := (Keeps.refl nowhere w3).drew.alloc _
                have rowA := emptyU w3.drew
                have rdA := hr3.rd.same kA
                have kB : Keeps nowhere w3 ((w3.drew.alloc (.cells #[] 43)).alloc (.cells #[.int .u16 X] 43)) := kA.alloc _
                have rowB := rowA.same ((Keeps.refl nowhere (w3.drew.alloc (.cells #[] 43))).alloc (.cells #[.int .u16 X] 43))
                have rdB := hr3.rd.same kB
                have jB := oneU (w3.drew.alloc (.cells #[] 43)) X
                have kD : Keeps nowhere w3 ((w3.drew.alloc (.cells #[.int .u16 X] 43)).alloc (.cells #[] 43)) := ((Keeps.refl nowhere w3).drew.alloc _).alloc _
                have rowD := emptyU (w3.drew.alloc (.cells #[.int .u16 X] 43))
                have rdD := hr3.rd.same kD
                have jD := (oneU w3.drew X).same ((Keeps.refl nowhere (w3.drew.alloc (.cells #[.int .u16 X] 43))).alloc (.cells #[] 43))
                rw [show (w3.drew.alloc (.cells #[] 43)).heap.size = w3.heap.size + 1 by simp] at jB
                rw [show (w3.drew.alloc (.cells #[.int .u16 X] 43)).heap.size = w3.heap.size + 1 by simp] at rowD
                have hlb1 : ([] : List Nat).length + ts.length ≤ 100000000 := by have := HR.out; simp; omega
                have hlb2 : ts.length + ([X] : List Nat).length ≤ 100000000 := by have := HR.out; simp; omega
                have H3 := Lib.hid h3
                have Hk3 := Lib.hid hk3
                have Hf3 := Lib.hid hf3
                have Hr3 := Lib.hid hr3
                have Hl3 := Lib.hid hl3
                have Hnr3 := Lib.hid hnr3
                have Hnl3 := Lib.hid hnl3
                have Hbx3 := Lib.hid hbx3
                have Hc := Lib.hid hc
                have KA := Lib.hid kA
                have RowA := Lib.hid rowA
                have RdA := Lib.hid rdA
                have KB := Lib.hid kB
                have RowB := Lib.hid rowB
                have RdB := Lib.hid rdB
                have JB := Lib.hid jB
                have KD := Lib.hid kD
                have RowD := Lib.hid rowD
                have RdD := Lib.hid rdD
                have JD := Lib.hid jD
                have Hlb1 := Lib.hid hlb1
                have Hlb2 := Lib.hid hlb2
                clear h3 hk3 hf3 hr3 hl3 hnr3 hnl3 hbx3 hc kA rowA rdA kB rowB rdB jB kD rowD rdD jD hlb1 hlb2
                go_wp2_with fail
                refine wp_region_tree [1, 3, 4] [4] [.ps [1, 3], .fs [4]] 5 #[false, true, false, true, true, false, false, false] (Keeps nowhere w3.drew) rfl (by kernel_rfl) (by kernel_rfl) ?_
                refine wpQ_ps rfl fun K hK => ?_
                simp only [List.map_cons, List.map_nil, Option.getD_some, List.getElem?_toArray, List.getElem?_cons_zero, List.getElem?_cons_succ]
                iterate 2 (first | (apply quietO_cons _ rfl; (intro w' _; go_simp; rfl)) | apply quietO_skip rfl)
                refine hK _ ?_
                clear hK K
                simp only [Act.put, List.setIfInBounds_toArray, List.set_cons_zero, List.set_cons_succ]
                refine wpQ_fs rfl (Keeps.refl _ _) fun K hK => ?_
                simp only [List.map_cons, List.map_nil, Option.getD_some, List.getElem?_toArray, List.getElem?_cons_zero, List.getElem?_cons_succ]
                iterate 1 (first | (apply quietO_cons _ rfl; (intro w' hs; have c_0 := q1 w' hs; go_simp; rfl)) | apply quietO_skip rfl)
                refine hK _ ?_
                clear hK K
                simp only [Act.put, List.setIfInBounds_toArray, List.set_cons_zero, List.set_cons_succ]
                clear q1
                refine wpQ_nil ?_
                refine tree_step [(0, true), (5, false)] (by kernel_rfl) (by simp) (by kernel_rfl) ?_
                intro x hx
                simp only [List.mem_cons, List.not_mem_nil, or_false] at hx
                rcases hx with rfl | rfl
                · refine tree_op rfl rfl fun K hK => ?_
                  have HK := Lib.hid hK
                  clear hK
                  simp only [Option.getD_some, List.getElem?_toArray, List.getElem?_cons_zero, List.getElem?_cons_succ]
                  go_wp2_with fail
                  refine HK.out _ _ (fun _ => ((Keeps.refl nowhere w3.drew).alloc _)) ?_
                  clear HK K
                  refine tree_step [(2, true), (5, false)] (by kernel_rfl) (by simp) (by kernel_rfl) ?_
                  intro x hx
                  simp only [List.mem_cons, List.not_mem_nil, or_false] at hx
                  rcases hx with rfl | rfl
                  · refine tree_op rfl rfl fun K hK => ?_
                    have HK := Lib.hid hK
                    clear hK
                    simp only [Option.getD_some, List.getElem?_toArray, List.getElem?_cons_zero, List.getElem?_cons_succ]
                    go_wp2_with (at_builtin; go_must (refine RecT.wpList_append Try.underlying66 infoU16 rfl (by decide) rfl (.tmp 56) (.tmp 57) rfl _ [] rfl RowA.out _ _ ts rfl RdA.out Hlb1.out ?_))
                    intro v5 w5 hrow5 hk5 hf5
                    try rw [List.nil_append] at hrow5
                    have hk6 : Keeps nowhere w3 w5 := KA.out.trans hk5 (fun b hb e => by simp [Value.ownBlock] at e; omega)
                    have hab5 : Above w3.heap.size v5.ownBlock := fun b hb => by
                      rcases hf5 b hb with h | h
                      · simp [Value.ownBlock] at h; omega
                      · have := KA.out.size; (try simp at this); (try simp at h); omega
                    have k7 := hk6.alloc (.cells #[.int .u16 X] 43)
                    have row6 := hrow5.same ((Keeps.refl nowhere w5).alloc (.cells #[.int .u16 X] 43))
                    have j6 := oneU w5 X
                    have k6d : Keeps nowhere w3.drew w5 := ((Keeps.refl nowhere w3.drew).alloc _).trans hk5 (fun b hb e => by simp [Value.ownBlock] at e hb; omega)
                    clear hk5 hf5
                    have Hk6 := Lib.hid hk6
                    have Hab5 := Lib.hid hab5
                    have K7 := Lib.hid k7
                    have Row6 := Lib.hid row6
                    have J6 := Lib.hid j6
                    have Hrow5 := Lib.hid hrow5
                    clear hk6 hab5 k7 row6 j6 hrow5
                    go_wp2_with fail
                    refine HK.out _ _ (fun _ => k6d) ?_
                    clear HK K
                    refine tree_step [(5, false)] (by kernel_rfl) (by simp) (by kernel_rfl) ?_
                    intro x hx
                    obtain rfl := List.mem_singleton.1 hx
                    refine tree_op rfl rfl fun K hK => ?_
                    have HK := Lib.hid hK
                    clear hK
                    simp only [Option.getD_some, List.getElem?_toArray, List.getElem?_cons_zero, List.getElem?_cons_succ]
                    go_wp2_with fail
                    refine HK.out _ _ (fun h => by cases h) ?_
                    clear HK K
                    refine tree_step [(6, false)] (by kernel_rfl) (by simp) (by kernel_rfl) ?_
                    intro x hx
                    obtain rfl := List.mem_singleton.1 hx
                    refine tree_op rfl rfl fun K hK => ?_
                    have HK := Lib.hid hK
                    clear hK
                    simp only [Option.getD_some, List.getElem?_toArray, List.getElem?_cons_zero, List.getElem?_cons_succ]
                    go_wp2_with (at_builtin; go_must (refine RecT.wpList_append Try.underlying66 infoU16 rfl (by decide) rfl (.tmp 58) (.tmp 61) rfl _ ts rfl Row6.out _ _ [X] rfl J6.out Hlb2.out ?_))
                    intro v7 w7 hrow7 hk7 hf7
                    have hk8 : Keeps nowhere w3 w7 := K7.out.trans hk7 (fun b hb e => absurd (Hab5.out b e) (by omega))
                    have hab7 : Above w3.heap.size v7.ownBlock := fun b hb => by
                      rcases hf7 b hb with h | h
                      · exact Hab5.out b h
                      · have := K7.out.size; (try simp at this); (try simp at h); omega
                    clear hk7 hf7
                    have Hrow7 := Lib.hid hrow7
                    have Hk8 := Lib.hid hk8
                    have Hab7 := Lib.hid hab7
                    clear hrow7 hk8 hab7
                    go_wp2_with fail
                    refine HK.out _ _ (fun h => by cases h) ?_
                    clear HK K
                    refine tree_step [(7, false)] (by kernel_rfl) (by simp) (by kernel_rfl) ?_
                    intro x hx
                    obtain rfl := List.mem_singleton.1 hx
                    refine tree_op rfl rfl fun K hK => ?_
                    have HK := Lib.hid hK
                    clear hK
                    simp only [Option.getD_some, List.getElem?_toArray, List.getElem?_cons_zero, List.getElem?_cons_succ]
                    go_wp2_with fail
                    refine HK.out _ _ (fun h => by cases h) ?_
                    clear HK K
                    refine tree_fin (by kernel_rfl) ?_
                    go_wp2_with fail
                    go_meet
                    case rel => exact ⟨g', h, ts ++ [X], ws, ⟨H3.out.same Hk8.out, Hrow7.out, Hl3.out.same Hk8.out, H3.out.apart Hab7.out, Hnl3.out, nodup_ask Hst6.out.nd Hc.out, by rw [List.length_append, ← HR.out]; simp; omega⟩, by have := HW.out; omega, Hbx3.out.same Hk8.out⟩
                  · refine tree_op rfl rfl fun K hK => ?_
                    have HK := Lib.hid hK
                    clear hK
                    simp only [Option.getD_some, List.getElem?_toArray, List.getElem?_cons_zero, List.getElem?_cons_succ]
                    go_wp2_with fail
                    refine HK.out _ _ (fun h => by cases h) ?_
                    clear HK K
                    refine tree_step [(2, false)] (by kernel_rfl) (by simp) (by kernel_rfl) ?_
                    intro x hx
                    obtain rfl := List.mem_singleton.1 hx
                    refine tree_op rfl rfl fun K hK => ?_
                    have HK := Lib.hid hK
                    clear hK
                    simp only [Option.getD_some, List.getElem?_toArray, List.getElem?_cons_zero, List.getElem?_cons_succ]
                    go_wp2_with (at_builtin; go_must (refine RecT.wpList_append Try.underlying66 infoU16 rfl (by decide) rfl (.tmp 56) (.tmp 57) rfl _ [] rfl RowB.out _ _ ts rfl RdB.out Hlb1.out ?_))
                    intro v5 w5 hrow5 hk5 hf5
                    try rw [List.nil_append] at hrow5
                    have hk6 : Keeps nowhere w3 w5 := KB.out.trans hk5 (fun b hb e => by simp [Value.ownBlock] at e; omega)
                    have hab5 : Above w3.heap.size v5.ownBlock := fun b hb => by
                      rcases hf5 b hb with h | h
                      · simp [Value.ownBlock] at h; omega
                      · have := KB.out.size; (try simp at this); (try simp at h); omega
                    have j6 := JB.out.keep hk5 (fun b hb e => by simp [Value.ownBlock] at e hb; omega)
                    clear hk5 hf5
                    have Hk6 := Lib.hid hk6
                    have Hab5 := Lib.hid hab5
                    have J6 := Lib.hid j6
                    have Hrow5 := Lib.hid hrow5
                    clear hk6 hab5 j6 hrow5
                    go_wp2_with fail
                    refine HK.out _ _ (fun h => by cases h) ?_
                    clear HK K
                    refine tree_step [(6, false)] (by kernel_rfl) (by simp) (by kernel_rfl) ?_
                    intro x hx
                    obtain rfl := List.mem_singleton.1 hx
                    refine tree_op rfl rfl fun K hK => ?_
                    have HK := Lib.hid hK
                    clear hK
                    simp only [Option.getD_some, List.getElem?_toArray, List.getElem?_cons_zero, List.getElem?_cons_succ]
                    go_wp2_with (at_builtin; go_must (refine RecT.wpList_append Try.underlying66 infoU16 rfl (by decide) rfl (.tmp 58) (.tmp 61) rfl _ ts rfl Hrow5.out _ _ [X] rfl J6.out Hlb2.out ?_))
                    intro v7 w7 hrow7 hk7 hf7
                    have hk8 : Keeps nowhere w3 w7 := Hk6.out.trans hk7 (fun b hb e => absurd (Hab5.out b e) (by omega))
                    have hab7 : Above w3.heap.size v7.ownBlock := fun b hb => by
                      rcases hf7 b hb with h | h
                      · exact Hab5.out b h
                      · have := Hk6.out.size; (try simp at this); (try simp at h); omega
                    clear hk7 hf7
                    have Hrow7 := Lib.hid hrow7
                    have Hk8 := Lib.hid hk8
                    have Hab7 := Lib.hid hab7
                    clear hrow7 hk8 hab7
                    go_wp2_with fail
                    refine HK.out _ _ (fun h => by cases h) ?_
                    clear HK K
                    refine tree_step [(7, false)] (by kernel_rfl) (by simp) (by kernel_rfl) ?_
                    intro x hx
                    obtain rfl := List.mem_singleton.1 hx
                    refine tree_op rfl rfl fun K hK => ?_
                    have HK := Lib.hid hK
                    clear hK
                    simp only [Option.getD_some, List.getElem?_toArray, List.getElem?_cons_zero, List.getElem?_cons_succ]
                    go_wp2_with fail
                    refine HK.out _ _ (fun h => by cases h) ?_
                    clear HK K
                    refine tree_fin (by kernel_rfl) ?_
                    go_wp2_with fail
                    go_meet
                    case rel => exact ⟨g', h, ts ++ [X], ws, ⟨H3.out.same Hk8.out, Hrow7.out, Hl3.out.same Hk8.out, H3.out.apart Hab7.out, Hnl3.out, nodup_ask Hst6.out.nd Hc.out, by rw [List.length_append, ← HR.out]; simp; omega⟩, by have := HW.out; omega, Hbx3.out.same Hk8.out⟩
                · refine tree_op rfl rfl fun K hK => ?_
                  have HK := Lib.hid hK
                  clear hK
                  simp only [Option.getD_some, List.getElem?_toArray, List.getElem?_cons_zero, List.getElem?_cons_succ]
                  go_wp2_with fail
                  refine HK.out _ _ (fun h => by cases h) ?_
                  clear HK K
                  refine tree_step [(0, false)] (by kernel_rfl) (by simp) (by kernel_rfl) ?_
                  intro x hx
                  obtain rfl := List.mem_singleton.1 hx
                  refine tree_op rfl rfl fun K hK => ?_
                  have HK := Lib.hid hK
                  clear hK
                  simp only [Option.getD_some, List.getElem?_toArray, List.getElem?_cons_zero, List.getElem?_cons_succ]
                  go_wp2_with fail
                  refine HK.out _ _ (fun h => by cases h) ?_
                  clear HK K
                  refine tree_step [(2, false)] (by kernel_rfl) (by simp) (by kernel_rfl) ?_
                  intro x hx
                  obtain rfl := List.mem_singleton.1 hx
                  refine tree_op rfl rfl fun K hK => ?_
                  have HK := Lib.hid hK
                  clear hK
                  simp only [Option.getD_some, List.getElem?_toArray, List.getElem?_cons_zero, List.getElem?_cons_succ]
                  go_wp2_with (at_builtin; go_must (refine RecT.wpList_append Try.underlying66 infoU16 rfl (by decide) rfl (.tmp 56) (.tmp 57) rfl _ [] rfl RowD.out _ _ ts rfl RdD.out Hlb1.out ?_))
                  intro v5 w5 hrow5 hk5 hf5
                  try rw [List.nil_append] at hrow5
                  have hk6 : Keeps nowhere w3 w5 := KD.out.trans hk5 (fun b hb e => by simp [Value.ownBlock] at e; omega)
                  have hab5 : Above w3.heap.size v5.ownBlock := fun b hb => by
                    rcases hf5 b hb with h | h
                    · simp [Value.ownBlock] at h; omega
                    · have := KD.out.size; (try simp at this); (try simp at h); omega
                  have j6 := JD.out.keep hk5 (fun b hb e => by simp [Value.ownBlock] at e hb; omega)
                  clear hk5 hf5
                  have Hk6 := Lib.hid hk6
                  have Hab5 := Lib.hid hab5
                  have J6 := Lib.hid j6
                  have Hrow5 := Lib.hid hrow5
                  clear hk6 hab5 j6 hrow5
                  go_wp2_with fail
                  refine HK.out _ _ (fun h => by cases h) ?_
                  clear HK K
                  refine tree_step [(6, false)] (by kernel_rfl) (by simp) (by kernel_rfl) ?_
                  intro x hx
                  obtain rfl := List.mem_singleton.1 hx
                  refine tree_op rfl rfl fun K hK => ?_
                  have HK := Lib.hid hK
                  clear hK
                  simp only [Option.getD_some, List.getElem?_toArray, List.getElem?_cons_zero, List.getElem?_cons_succ]
                  go_wp2_with (at_builtin; go_must (refine RecT.wpList_append Try.underlying66 infoU16 rfl (by decide) rfl (.tmp 58) (.tmp 61) rfl _ ts rfl Hrow5.out _ _ [X] rfl J6.out Hlb2.out ?_))
                  intro v7 w7 hrow7 hk7 hf7
                  have hk8 : Keeps nowhere w3 w7 := Hk6.out.trans hk7 (fun b hb e => absurd (Hab5.out b e) (by omega))
                  have hab7 : Above w3.heap.size v7.ownBlock := fun b hb => by
                    rcases hf7 b hb with h | h
                    · exact Hab5.out b h
                    · have := Hk6.out.size; (try simp at this); (try simp at h); omega
                  clear hk7 hf7
                  have Hrow7 := Lib.hid hrow7
                  have Hk8 := Lib.hid hk8
                  have Hab7 := Lib.hid hab7
                  clear hrow7 hk8 hab7
                  go_wp2_with fail
                  refine HK.out _ _ (fun h => by cases h) ?_
                  clear HK K
                  refine tree_step [(7, false)] (by kernel_rfl) (by simp) (by kernel_rfl) ?_
                  intro x hx
                  obtain rfl := List.mem_singleton.1 hx
                  refine tree_op rfl rfl fun K hK => ?_
                  have HK := Lib.hid hK
                  clear hK
                  simp only [Option.getD_some, List.getElem?_toArray, List.getElem?_cons_zero, List.getElem?_cons_succ]
                  go_wp2_with fail
                  refine HK.out _ _ (fun h => by cases h) ?_
                  clear HK K
                  refine tree_fin (by kernel_rfl) ?_
                  go_wp2_with fail
                  go_meet
                  case rel => exact ⟨g', h, ts ++ [X], ws, ⟨H3.out.same Hk8.out, Hrow7.out, Hl3.out.same Hk8.out, H3.out.apart Hab7.out, Hnl3.out, nodup_ask Hst6.out.nd Hc.out, by rw [List.length_append, ← HR.out]; simp; omega⟩, by have := HW.out; omega, Hbx3.out.same Hk8.out⟩
            · rw [← HK.out] at hK1
              subst hK1
              have hE : askE ts X = 16 := by rw [askE, if_pos hc]
              have hLs : askL ts X = ts := by rw [askL, if_neg (by rw [hE]; decide)]
              have hi00 : (0 : Int) ≤ (i0 : Int) := by omega
              go_wp2_with fail
              refine (own_ask X Hst6.out.q (by have := HR.out; omega)).mono ?_
              rintro e w3 ⟨rfl, g', h3, hk3, hf3⟩
              rw [hE]
              rw [hLs] at h3
              obtain ⟨hr3, hl3, hnr3, hnl3⟩ := Hst6.out.rows hk3 hf3 (From.refl _ _)
              have hbx3 := Hbx6.out.keep3 Hst6.out.q hk3
              clear a0 a1 a2 hE hLs
              have H3 := Lib.hid h3
              have Hk3 := Lib.hid hk3
              have Hf3 := Lib.hid hf3
              have Hr3 := Lib.hid hr3
              have Hl3 := Lib.hid hl3
              have Hnr3 := Lib.hid hnr3
              have Hnl3 := Lib.hid hnl3
              have Hbx3 := Lib.hid hbx3
              have Hc := Lib.hid hc
              clear h3 hk3 hf3 hr3 hl3 hnr3 hnl3 hbx3 hc
              go_wp2_with fail
              go_meet
              case rel => exact ⟨g', h, ts, ws, ⟨H3.out, Hr3.out, Hl3.out, Hnr3.out, Hnl3.out, Hst6.out.nd, Hst6.out.n32⟩, by have := HW.out; omega, Hbx3.out⟩
        by_cases o2 : o = 2
        · as_aux_lemma =>
            subst o2
            clear a0 a2
            rcases idx_case ts X with ⟨hc, hK1⟩ | ⟨i0, hi0l, hi0, hK1, hc⟩
            · rw [← HK.out] at hK1
              subst hK1
              go_wp2_with fail
              refine (own_done X Hst6.out.q (by have := HR.out; omega) (by have := HW.out; omega)).mono ?_
              rintro e w3 ⟨rfl, h3, hk3⟩
              rw [hc]
              rw [doneA_no hc, show doneW ts ws X = ws by rw [doneW, hc]; rfl] at h3
              obtain ⟨hr3, hl3, hnr3, hnl3⟩ := Hst6.out.rows hk3 (From.refl _ _) (From.refl _ _)
              have hbx3 := Hbx6.out.keep3 Hst6.out.q hk3
              clear a1
              have H3 := Lib.hid h3
              have Hk3 := Lib.hid hk3
              have Hr3 := Lib.hid hr3
              have Hl3 := Lib.hid hl3
              have Hnr3 := Lib.hid hnr3
              have Hnl3 := Lib.hid hnl3
              have Hbx3 := Lib.hid hbx3
              have Hc := Lib.hid hc
              clear h3 hk3 hr3 hl3 hnr3 hnl3 hbx3 hc
              go_wp2_with fail
              go_meet
              case rel => exact ⟨g, h, ts, ws, ⟨H3.out, Hr3.out, Hl3.out, Hnr3.out, Hnl3.out, Hst6.out.nd, Hst6.out.n32⟩, by have := HW.out; omega, Hbx3.out⟩
            · rw [← HK.out] at hK1
              subst hK1
              have hi00 : (0 : Int) ≤ (i0 : Int) := by omega
              rw [← HR.out] at hi0l
              go_wp2_with fail
              refine (own_done X Hst6.out.q (by have := HR.out; omega) (by have := HW.out; omega)).mono ?_
              rintro e w3 ⟨rfl, h3, hk3⟩
              rw [hc]
              rw [doneW_stays hc] at h3
              obtain ⟨hr3, hl3, hnr3, hnl3⟩ := Hst6.out.rows hk3 (From.refl _ _) (From.refl _ _)
              have hbx3 := Hbx6.out.keep3 Hst6.out.q hk3
              clear a1
              have her := erase_done Hst6.out.nd hi0
              obtain ⟨-, hRc, -⟩ := cap_le hr3
              have hRc2 := (cap_le hr3).2.2
              unfold maxLen at hRc2
              rw [← HR.out] at hRc
              rcases hr3.blk with ⟨-, h0⟩ | ⟨b6, cap6, rest6, hv6, -⟩
              · rw [h0] at hi0; simp at hi0
              · injection hv6 with hA6 hn6 hc6
                clear hn6 hc6
                subst hA6
                have hka : Keeps nowhere w3 (w3.drew.alloc (.cells #[] 43)) := (Keeps.refl nowhere w3).drew.alloc _
                have hrow0 := emptyU w3.drew
                have hrt := (hr3.rd.same hka).take i0 (by have := HR.out; omega)
                have hlb1 : ([] : List Nat).length + (ts.take i0).length ≤ 100000000 := by have := HR.out; simp; omega
                have hlb2 : (ts.take i0).length + (ts.drop (i0 + 1)).length ≤ 100000000 := by have := HR.out; simp; omega
                have j1 : (i0 : Int) ≤ i0 + 1 := by omega
                have j2 : (i0 : Int) + 1 ≤ R := by omega
                have j3 : (i0 : Int) ≤ c6 := by omega
                have j4 : (i0 : Int) + 1 ≤ c6 := by omega
                have j5 : ((i0 : Int) + 1).toNat = i0 + 1 := by omega
                have j6 : IntKind.i64.wrap ((i0 : Int) + 1) = i0 + 1 := IntWalk.i64_in _ (by omega)
                have j7 : (R : Int) ≤ c6 := by omega
                by_cases hcc : c6 = i0 + 1
                · subst hcc
                  obtain rfl : R = i0 + 1 := by omega
                  have hnone : ∀ w', Keeps nowhere w3 w' → recU.Rd w' (.slice (some ⟨b6, 0, none⟩) 0 0) (some b6) (ts.drop (i0 + 1)) := fun w' hk => by
                    have hd : ts.drop (i0 + 1) = [] := List.drop_eq_nil_of_le (by rw [← HR.out]; exact Nat.le_refl _)
                    rw [hd]
                    obtain ⟨A', cp, hv, -, -, hu, h3', -⟩ := (hr3.rd.same hk)
                    exact ⟨_, 0, rfl, Nat.le_refl _, Nat.zero_le _, hu, fun hp => absurd hp (by simp), fun h => by cases h⟩
                  have H3 := Lib.hid h3
                  have Hk3 := Lib.hid hk3
                  have Hr3 := Lib.hid hr3
                  have Hl3 := Lib.hid hl3
                  have Hnr3 := Lib.hid hnr3
                  have Hnl3 := Lib.hid hnl3
                  have Hbx3 := Lib.hid hbx3
                  have Hc := Lib.hid hc
                  have Her := Lib.hid her
                  have Hka := Lib.hid hka
                  have Hrow0 := Lib.hid hrow0
                  have Hrt := Lib.hid hrt
                  have Hlb1 := Lib.hid hlb1
                  have Hlb2 := Lib.hid hlb2
                  have Hnone := Lib.hid hnone
                  have Hi0 := Lib.hid hi0
                  clear h3 hk3 hr3 hl3 hnr3 hnl3 hbx3 hc her hka hrow0 hrt hlb1 hlb2 hnone hi0
                  go_wp2_with fail
                  refine wp_region_script [1, 2, 3, 5, 6, 7, 8] [] [.ps [1, 2, 3], .ps [5, 6, 7, 8], .es [0, 4, 9, 10] false] (fun _ => True) rfl (by kernel_rfl) ?_
                  refine wpS_ps rfl fun K hK => ?_
                  simp only [List.map_cons, List.map_nil, Option.getD_some, List.getElem?_toArray, List.getElem?_cons_zero, List.getElem?_cons_succ]
                  iterate 3 (first | (apply quietO_cons _ rfl; (intro w' _; go_simp; rfl)) | apply quietO_skip rfl)
                  refine hK _ ?_
                  clear hK K
                  simp only [Act.put, List.setIfInBounds_toArray, List.set_cons_zero, List.set_cons_succ]
                  refine wpS_ps rfl fun K hK => ?_
                  simp only [List.map_cons, List.map_nil, Option.getD_some, List.getElem?_toArray, List.getElem?_cons_zero, List.getElem?_cons_succ]
                  iterate 4 (first | (apply quietO_cons _ rfl; (intro w' _; go_simp; rfl)) | apply quietO_skip rfl)
                  refine hK _ ?_
                  clear hK K
                  simp only [Act.put, List.setIfInBounds_toArray, List.set_cons_zero, List.set_cons_succ]
                  refine wpS_es rfl fun K hK => ?_
                  have HK := Lib.hid hK
                  clear hK
                  simp only [List.map_cons, List.map_nil, Option.getD_some, List.getElem?_toArray, List.getElem?_cons_zero, List.getElem?_cons_succ]
                  go_wp2_with (at_builtin; go_must (refine RecT.wpList_append Try.underlying66 infoU16 rfl (by decide) rfl (.tmp 74) (.tmp 77) rfl _ [] rfl Hrow0.out _ _ (ts.take i0) rfl Hrt.out Hlb1.out ?_))
                  intro v5 w5 hrow5 hk5 hf5
                  try rw [List.nil_append] at hrow5
                  have hk6 : Keeps nowhere w3 w5 := Hka.out.trans hk5 (fun b hb e => by simp [Value.ownBlock] at e; omega)
                  have hab5 : Above w3.heap.size v5.ownBlock := fun b hb => by
                    rcases hf5 b hb with h | h
                    · simp [Value.ownBlock] at h; omega
                    · have := Hka.out.size; (try simp at this); (try simp at h); omega
                  have hrd := Hnone.out w5 hk6
                  clear hk5 hf5
                  have Hrow5 := Lib.hid hrow5
                  have Hk6 := Lib.hid hk6
                  have Hab5 := Lib.hid hab5
                  have Hrd := Lib.hid hrd
                  clear hrow5 hk6 hab5 hrd
                  go_wp2_with (at_builtin; go_must (refine RecT.wpList_append Try.underlying66 infoU16 rfl (by decide) rfl (.tmp 78) (.tmp 82) rfl _ (ts.take i0) rfl Hrow5.out _ _ (ts.drop (i0 + 1)) rfl Hrd.out Hlb2.out ?_))
                  intro v7 w7 hrow7 hk7 hf7
                  rw [← List.eraseIdx_eq_take_drop_succ, Her.out] at hrow7
                  have hk8 : Keeps nowhere w3 w7 := Hk6.out.trans hk7 (fun b hb e => absurd (Hab5.out b e) (by omega))
                  have hab7 : Above w3.heap.size v7.ownBlock := fun b hb => by
                    rcases hf7 b hb with h | h
                    · exact Hab5.out b h
                    · exact Nat.le_trans Hk6.out.size h
                  have hbx7 := Hbx3.out.same hk8
                  obtain ⟨-, a1, -⟩ := hbx7.cells
                  simp only at a1
                  have hl7 := Hl3.out.same hk8
                  obtain ⟨A8, c8, rfl, -⟩ := hrow7.form
                  obtain ⟨N8, hN8⟩ : ∃ N8, N8 = (doneA ts X).length := ⟨_, rfl⟩
                  rw [← hN8] at hrow7 hab7 ⊢
                  clear hk7 hf7
                  have Hrow7 := Lib.hid hrow7
                  have Hk8 := Lib.hid hk8
                  have Hab7 := Lib.hid hab7
                  have Hbx7 := Lib.hid hbx7
                  have Hl7 := Lib.hid hl7
                  have HN8 := Lib.hid hN8
                  clear hrow7 hk8 hab7 hbx7 hl7 hN8
                  go_wp2_with fail
                  go_wp2_with fail
                  refine HK.out _ _ (fun h => by cases h) ?_
                  clear HK K
                  refine wpS_nil ?_
                  go_wp2_with fail
                  refine (lwithout21 _ _ ws X true _ Hl7.out.rd (by have := HW.out; omega)).mono ?_
                  rintro e w9 ⟨v9, rfl, hl9, hab9, hk9⟩
                  have hk39 := Hk8.out.more hk9
                  have Hl9 := Lib.hid hl9
                  have Hab9 := Lib.hid hab9
                  have Hk9 := Lib.hid hk9
                  have Hk39 := Lib.hid hk39
                  clear hl9 hab9 hk9 hk39
                  go_wp2_with fail
                  go_meet
                  case rel => exact ⟨g, h, doneA ts X, ws.filter (stays X true), ⟨H3.out.same Hk39.out, Hrow7.out.same Hk9.out, Hl9.out, H3.out.apart Hab7.out, H3.out.apart (fun b hb => Nat.le_trans Hk8.out.size (Hab9.out b hb)), nodup_done X Hst6.out.nd, Nat.le_trans (doneA_len ts X) Hst6.out.n32⟩, by have := HW.out; have := List.length_filter_le (stays X true) ws; omega, Hbx7.out.same Hk9.out⟩
                · have hdrop : ∀ w', Keeps nowhere w3 w' → recU.Rd w' (.slice (some ⟨b6, i0 + 1, none⟩) (R - (i0 + 1)) (c6 - (i0 + 1))) (some b6) (ts.drop (i0 + 1)) := fun w' hk => by
                    have h := (hr3.rd.same hk).drop (i0 + 1) (by rw [← HR.out]; omega)
                    rw [show 0 + (i0 + 1) * recU.n = i0 + 1 by show 0 + (i0 + 1) * 1 = i0 + 1; omega] at h
                    exact h
                  have hcc2 : ¬ (c6 : Int) = i0 + 1 := by omega
                  have H3 := Lib.hid h3
                  have Hk3 := Lib.hid hk3
                  have Hr3 := Lib.hid hr3
                  have Hl3 := Lib.hid hl3
                  have Hnr3 := Lib.hid hnr3
                  have Hnl3 := Lib.hid hnl3
                  have Hbx3 := Lib.hid hbx3
                  have Hc := Lib.hid hc
                  have Her := Lib.hid her
                  have Hka := Lib.hid hka
                  have Hrow0 := Lib.hid hrow0
                  have Hrt := Lib.hid hrt
                  have Hlb1 := Lib.hid hlb1
                  have Hlb2 := Lib.hid hlb2
                  have Hdrop := Lib.hid hdrop
                  have Hi0 := Lib.hid hi0
                  clear h3 hk3 hr3 hl3 hnr3 hnl3 hbx3 hc her hka hrow0 hrt hlb1 hlb2 hdrop hi0
                  go_wp2_with fail
                  refine wp_region_script [1, 2, 3, 5, 6, 7, 8] [] [.ps [1, 2, 3], .ps [5, 6, 7, 8], .es [0, 4, 9, 10] false] (fun _ => True) rfl (by kernel_rfl) ?_
                  refine wpS_ps rfl fun K hK => ?_
                  simp only [List.map_cons, List.map_nil, Option.getD_some, List.getElem?_toArray, List.getElem?_cons_zero, List.getElem?_cons_succ]
                  iterate 3 (first | (apply quietO_cons _ rfl; (intro w' _; go_simp; rfl)) | apply quietO_skip rfl)
                  refine hK _ ?_
                  clear hK K
                  simp only [Act.put, List.setIfInBounds_toArray, List.set_cons_zero, List.set_cons_succ]
                  refine wpS_ps rfl fun K hK => ?_
                  simp only [List.map_cons, List.map_nil, Option.getD_some, List.getElem?_toArray, List.getElem?_cons_zero, List.getElem?_cons_succ]
                  iterate 4 (first | (apply quietO_cons _ rfl; (intro w' _; go_simp; rfl)) | apply quietO_skip rfl)
                  refine hK _ ?_
                  clear hK K
                  simp only [Act.put, List.setIfInBounds_toArray, List.set_cons_zero, List.set_cons_succ]
                  refine wpS_es rfl fun K hK => ?_
                  have HK := Lib.hid hK
                  clear hK
                  simp only [List.map_cons, List.map_nil, Option.getD_some, List.getElem?_toArray, List.getElem?_cons_zero, List.getElem?_cons_succ]
                  go_wp2_with (at_builtin; go_must (refine RecT.wpList_append Try.underlying66 infoU16 rfl (by decide) rfl (.tmp 74) (.tmp 77) rfl _ [] rfl Hrow0.out _ _ (ts.take i0) rfl Hrt.out Hlb1.out ?_))
                  intro v5 w5 hrow5 hk5 hf5
                  try rw [List.nil_append] at hrow5
                  have hk6 : Keeps nowhere w3 w5 := Hka.out.trans hk5 (fun b hb e => by simp [Value.ownBlock] at e; omega)
                  have hab5 : Above w3.heap.size v5.ownBlock := fun b hb => by
                    rcases hf5 b hb with h | h
                    · simp [Value.ownBlock] at h; omega
                    · have := Hka.out.size; (try simp at this); (try simp at h); omega
                  have hrd := Hdrop.out w5 hk6
                  clear hk5 hf5
                  have Hrow5 := Lib.hid hrow5
                  have Hk6 := Lib.hid hk6
                  have Hab5 := Lib.hid hab5
                  have Hrd := Lib.hid hrd
                  clear hrow5 hk6 hab5 hrd
                  go_wp2_with (at_builtin; go_must (refine RecT.wpList_append Try.underlying66 infoU16 rfl (by decide) rfl (.tmp 78) (.tmp 82) rfl _ (ts.take i0) rfl Hrow5.out _ _ (ts.drop (i0 + 1)) rfl Hrd.out Hlb2.out ?_))
                  intro v7 w7 hrow7 hk7 hf7
                  rw [← List.eraseIdx_eq_take_drop_succ, Her.out] at hrow7
                  have hk8 : Keeps nowhere w3 w7 := Hk6.out.trans hk7 (fun b hb e => absurd (Hab5.out b e) (by omega))
                  have hab7 : Above w3.heap.size v7.ownBlock := fun b hb => by
                    rcases hf7 b hb with h | h
                    · exact Hab5.out b h
                    · exact Nat.le_trans Hk6.out.size h
                  have hbx7 := Hbx3.out.same hk8
                  obtain ⟨-, a1, -⟩ := hbx7.cells
                  simp only at a1
                  have hl7 := Hl3.out.same hk8
                  obtain ⟨A8, c8, rfl, -⟩ := hrow7.form
                  obtain ⟨N8, hN8⟩ : ∃ N8, N8 = (doneA ts X).length := ⟨_, rfl⟩
                  rw [← hN8] at hrow7 hab7 ⊢
                  clear hk7 hf7
                  have Hrow7 := Lib.hid hrow7
                  have Hk8 := Lib.hid hk8
                  have Hab7 := Lib.hid hab7
                  have Hbx7 := Lib.hid hbx7
                  have Hl7 := Lib.hid hl7
                  have HN8 := Lib.hid hN8
                  clear hrow7 hk8 hab7 hbx7 hl7 hN8
                  go_wp2_with fail
                  go_wp2_with fail
                  refine HK.out _ _ (fun h => by cases h) ?_
                  clear HK K
                  refine wpS_nil ?_
                  go_wp2_with fail
                  refine (lwithout21 _ _ ws X true _ Hl7.out.rd (by have := HW.out; omega)).mono ?_
                  rintro e w9 ⟨v9, rfl, hl9, hab9, hk9⟩
                  have hk39 := Hk8.out.more hk9
                  have Hl9 := Lib.hid hl9
                  have Hab9 := Lib.hid hab9
                  have Hk9 := Lib.hid hk9
                  have Hk39 := Lib.hid hk39
                  clear hl9 hab9 hk9 hk39
                  go_wp2_with fail
                  go_meet
                  case rel => exact ⟨g, h, doneA ts X, ws.filter (stays X true), ⟨H3.out.same Hk39.out, Hrow7.out.same Hk9.out, Hl9.out, H3.out.apart Hab7.out, H3.out.apart (fun b hb => Nat.le_trans Hk8.out.size (Hab9.out b hb)), nodup_done X Hst6.out.nd, Nat.le_trans (doneA_len ts X) Hst6.out.n32⟩, by have := HW.out; have := List.length_filter_le (stays X true) ws; omega, Hbx7.out.same Hk9.out⟩
        by_cases o3 : o = 3
        · as_aux_lemma =>
            subst o3
            clear a0
            rcases idx_case ts X with ⟨hc, hK1⟩ | ⟨i0, -, -, hK1, hc⟩
            · rw [← HK.out] at hK1
              subst hK1
              have hE : flushE ts X = 1 := by rw [flushE, hc]; rfl
              go_wp2_with fail
              refine (own_tflush X O Hst6.out.q (by have := HR.out; omega) (by have := HW.out; omega)).mono ?_
              rintro e w3 ⟨rfl, h', h3, hk3, hf3⟩
              rw [hE]
              rw [flushW_no hc] at h3
              obtain ⟨hr3, hl3, hnr3, hnl3⟩ := Hst6.out.rows hk3 (From.refl _ _) hf3
              have hbx3 := Hbx6.out.keep3 Hst6.out.q hk3
              clear a1 a2 hE
              have H3 := Lib.hid h3
              have Hk3 := Lib.hid hk3
              have Hf3 := Lib.hid hf3
              have Hr3 := Lib.hid hr3
              have Hl3 := Lib.hid hl3
              have Hnr3 := Lib.hid hnr3
              have Hnl3 := Lib.hid hnl3
              have Hbx3 := Lib.hid hbx3
              have Hc := Lib.hid hc
              clear h3 hk3 hf3 hr3 hl3 hnr3 hnl3 hbx3 hc
              go_wp2_with fail
              go_meet
              case rel => exact ⟨g, h', ts, ws, ⟨H3.out, Hr3.out, Hl3.out, Hnr3.out, Hnl3.out, Hst6.out.nd, Hst6.out.n32⟩, by have := HW.out; omega, Hbx3.out⟩
            · rw [← HK.out] at hK1
              subst hK1
              have hi00 : (0 : Int) ≤ (i0 : Int) := by omega
              have hE : flushE ts X = 0 := by rw [flushE, hc]; rfl
              go_wp2_with fail
              refine (own_tflush X O Hst6.out.q (by have := HR.out; omega) (by have := HW.out; omega)).mono ?_
              rintro e w3 ⟨rfl, h', h3, hk3, hf3⟩
              rw [hE]
              obtain ⟨hr3, hl3, hnr3, hnl3⟩ := Hst6.out.rows hk3 (From.refl _ _) hf3
              have hbx3 := Hbx6.out.keep3 Hst6.out.q hk3
              clear a1 a2 hE
              obtain ⟨-, a1, a2⟩ := hbx3.cells
              simp only at a1 a2
              have H3 := Lib.hid h3
              have Hk3 := Lib.hid hk3
              have Hf3 := Lib.hid hf3
              have Hr3 := Lib.hid hr3
              have Hl3 := Lib.hid hl3
              have Hnr3 := Lib.hid hnr3
              have Hnl3 := Lib.hid hnl3
              have Hbx3 := Lib.hid hbx3
              have Hc := Lib.hid hc
              clear h3 hk3 hf3 hr3 hl3 hnr3 hnl3 hbx3 hc
              go_wp2_with fail
              refine (lwithout21 _ _ ws X false _ Hl3.out.rd (by have := HW.out; omega)).mono ?_
              rintro e w4 ⟨v4, rfl, hl4, hab4, hk4⟩
              clear a1 a2
              obtain ⟨ws4, hws4⟩ : ∃ ws4, ws4 = ws.filter (stays X false) := ⟨_, rfl⟩
              rw [← hws4] at hl4
              obtain ⟨A4, c4, rfl, -⟩ := hl4.form
              obtain ⟨N4, hN4⟩ : ∃ N4, N4 = ws4.length := ⟨_, rfl⟩
              have hN4W : N4 ≤ W := by rw [hN4, hws4, HW.out]; exact List.length_filter_le _ _
              have hap4 := H3.out.apart hab4
              rw [← hN4] at hl4 hab4 hap4 ⊢
              have h4 := H3.out.same hk4
              have hr4 := Hr3.out.same hk4
              have hbx4 := Hbx3.out.same hk4
              obtain ⟨-, a1, a2⟩ := hbx4.cells
              simp only at a1 a2
              by_cases hO : O = X
              · have hne : ((O : Int) != (X : Int)) = false := by simp [hO]
                rw [flushW_stays Hc.out (fun h => h.1 hO), ← hws4] at h4
                have Hws4 := Lib.hid hws4
                have Hl4 := Lib.hid hl4
                have Hab4 := Lib.hid hab4
                have Hk4 := Lib.hid hk4
                have HN4 := Lib.hid hN4
                have Hap4 := Lib.hid hap4
                have H4 := Lib.hid h4
                have Hr4 := Lib.hid hr4
                have Hbx4 := Lib.hid hbx4
                have HO := Lib.hid hO
                clear hws4 hl4 hab4 hk4 hN4 hap4 h4 hr4 hbx4 hO
                go_wp2_with fail
                go_meet
                case rel => exact ⟨g, h', ts, ws4, ⟨H4.out, Hr4.out, Hl4.out, Hnr3.out, Hap4.out, Hst6.out.nd, Hst6.out.n32⟩, by have := HN4.out; omega, Hbx4.out⟩
              · have hne : ((O : Int) != (X : Int)) = true := by simp; omega
                have hat := lat_any _ _ ts O w4 hr4.rd (by have := HR.out; omega)
                rcases idx_case ts O with ⟨hc2, hK2⟩ | ⟨i1, -, -, hK2, hc2⟩
                · rw [hK2] at hat
                  rw [flushW_stays Hc.out (fun h => by rw [hc2] at h; exact absurd h.2 (by simp)), ← hws4] at h4
                  clear hK2
                  have Hws4 := Lib.hid hws4
                  have Hl4 := Lib.hid hl4
                  have Hab4 := Lib.hid hab4
                  have Hk4 := Lib.hid hk4
                  have HN4 := Lib.hid hN4
                  have Hap4 := Lib.hid hap4
                  have H4 := Lib.hid h4
                  have Hr4 := Lib.hid hr4
                  have Hbx4 := Lib.hid hbx4
                  have HO := Lib.hid hO
                  have Hc2 := Lib.hid hc2
                  have Hat := Lib.hid hat
                  clear hws4 hl4 hab4 hk4 hN4 hap4 h4 hr4 hbx4 hO hc2 hat
                  go_wp2_with fail
                  refine Hat.out.mono ?_
                  rintro e w5 ⟨rfl, hk5⟩
                  have Hk5 := Lib.hid hk5
                  clear hk5
                  go_wp2_with fail
                  go_meet
                  case rel => exact ⟨g, h', ts, ws4, ⟨H4.out.same Hk5.out, Hr4.out.same Hk5.out, Hl4.out.same Hk5.out, Hnr3.out, Hap4.out, Hst6.out.nd, Hst6.out.n32⟩, by have := HN4.out; omega, Hbx4.out.same Hk5.out⟩
                · rw [hK2] at hat
                  rw [flushW_adds Hc.out ⟨hO, hc2⟩, ← hws4] at h4
                  have hi10 : (0 : Int) ≤ (i1 : Int) := by omega
                  clear hK2
                  have Hws4 := Lib.hid hws4
                  have Hl4 := Lib.hid hl4
                  have Hab4 := Lib.hid hab4
                  have Hk4 := Lib.hid hk4
                  have HN4 := Lib.hid hN4
                  have Hap4 := Lib.hid hap4
                  have H4 := Lib.hid h4
                  have Hr4 := Lib.hid hr4
                  have Hbx4 := Lib.hid hbx4
                  have HO := Lib.hid hO
                  have Hc2 := Lib.hid hc2
                  have Hat := Lib.hid hat
                  clear hws4 hl4 hab4 hk4 hN4 hap4 h4 hr4 hbx4 hO hc2 hat
                  go_wp2_with fail
                  refine Hat.out.mono ?_
                  rintro e w5 ⟨rfl, hk5⟩
                  have h5 := H4.out.same hk5
                  have hr5 := Hr4.out.same hk5
                  have hl5 := Hl4.out.same hk5
                  have hbx5 := Hbx4.out.same hk5
                  clear a1 a2
                  obtain ⟨-, a1, a2⟩ := hbx5.cells
                  simp only at a1 a2
                  have hka := (Keeps.refl nowhere w5).alloc (.cells #[.int .u16 X, .int .u16 O] 76)
                  have hla := hl5.same hka
                  have hx1 := oneL w5 (X, O)
                  have hlb : ws4.length + ([(X, O)] : List (Nat × Nat)).length ≤ 100000000 := by have := HN4.out; have := HW.out; simp; omega
                  have Hk5 := Lib.hid hk5
                  have H5 := Lib.hid h5
                  have Hr5 := Lib.hid hr5
                  have Hl5 := Lib.hid hl5
                  have Hbx5 := Lib.hid hbx5
                  have Hka := Lib.hid hka
                  have Hla := Lib.hid hla
                  have Hx1 := Lib.hid hx1
                  have Hlb := Lib.hid hlb
                  clear hk5 h5 hr5 hl5 hbx5 hka hla hx1 hlb
                  go_wp2_with (at_builtin; go_must (refine RecT.wpList_append Try.underlying67 infoLw rfl (by decide) rfl (.tmp 118) (.tmp 124) rfl _ ws4 rfl Hla.out _ _ [(X, O)] rfl Hx1.out Hlb.out ?_))
                  intro v7 w7 hrow7 hk7 hf7
                  have hk8 : Keeps (fun b => (Value.slice A4 N4 c4).ownBlock = some b) w5 w7 := (Hka.out.mono (fun _ _ h => h.elim)).trans hk7 (fun _ _ h => h)
                  have hf8 : From (Value.slice A4 N4 c4).ownBlock w5.heap.size v7.ownBlock := fun b hb => (hf7 b hb).imp (fun h => h) (fun h => by have := Hka.out.size; (try simp at this); (try simp at h); omega)
                  have h7 := H5.out.aside hk8 Hap4.out (fun b hb => Nat.le_trans (H3.out.k.size) (Hab4.out b hb))
                  have hr7 := Hr5.out.keep hk8 (fun b e1 e2 => row_apart Hr5.out Hl5.out b e1 e2)
                  have hbx7 : ActBox21 w7 q ⟨3, X, O⟩ := Blk.keep Hbx5.out hk8 (fun e => own_blk_ne Hl5.out Hbx5.out (by decide) e)
                  have hap7 : ∀ b, v7.ownBlock = some b → ¬ only3 p g h' b := fun b hb e => (hf8 b hb).elim (fun h1 => Hap4.out b h1 e) (fun h1 => H5.out.apart (x := some b) (fun b' hb' => by injection hb' with hb'; omega) b rfl e)
                  obtain ⟨A8, c8, rfl, -⟩ := hrow7.form
                  clear hk7 hf7 hk8 hf8 a1 a2
                  have Hrow7 := Lib.hid hrow7
                  have H7 := Lib.hid h7
                  have Hr7 := Lib.hid hr7
                  have Hbx7 := Lib.hid hbx7
                  have Hap7 := Lib.hid hap7
                  clear hrow7 h7 hr7 hbx7 hap7
                  go_wp2_with fail
                  go_meet
                  case rel => exact ⟨g, h', ts, _, ⟨H7.out, Hr7.out, Hrow7.out, Hnr3.out, Hap7.out, Hst6.out.nd, Hst6.out.n32⟩, by rw [List.length_append, ← HN4.out]; simp; omega, Hbx7.out⟩
        by_cases o4 : o = 4
        · as_aux_lemma =>
            subst o4
            clear a0 a1 a2
            go_wp2_with fail
            refine (own_reset Hst6.out.q).mono ?_
            rintro e w7 ⟨rfl, h7, hk7⟩
            have hbx7 := Hbx6.out.keep3 Hst6.out.q hk7
            have H7 := Lib.hid h7
            have Hk7 := Lib.hid hk7
            have Hbx7 := Lib.hid hbx7
            clear h7 hk7 hbx7
            go_wp2_with fail
            go_meet
            case rel => exact ⟨none, none, [], [], ⟨H7.out, RecT.Row.nil _ _, RecT.Row.nil _ _, fun b hb => by simp [Value.ownBlock] at hb, fun b hb => by simp [Value.ownBlock] at hb, List.nodup_nil, by simp⟩, by simp, Hbx7.out⟩
        as_aux_lemma =>
          have e1 : (o == 1) = false := by simp [o1]
          have e2 : (o == 2) = false := by simp [o2]
          have e3 : (o == 3) = false := by simp [o3]
          have e4 : (o == 4) = false := by simp [o4]
          clear a0 a1 a2
          go_wp2_with fail
          go_meet
          case rel => exact ⟨g, h, ts, ws, Hst6.out, by have := HW.out; omega, Hbx6.out⟩
      case rest =>
        as_aux_lemma =>
          obtain ⟨g2, h2, ts2, ws2, hst, hwl2, hbx⟩ := hcut
          obtain ⟨A6', c6', rfl, -⟩ := hst.r.form
          obtain ⟨A7', c7', rfl, -⟩ := hst.l.form
          obtain ⟨R2, hR2⟩ : ∃ R2, R2 = ts2.length := ⟨_, rfl⟩
          obtain ⟨W2, hW2⟩ : ∃ W2, W2 = ws2.length := ⟨_, rfl⟩
          have hn2 := hst.n32
          rw [← hR2, ← hW2] at hst
          rw [← hR2] at hn2 ⊢
          rw [← hW2] at hwl2 ⊢
          have Hst := Lib.hid hst
          have Hbx := Lib.hid hbx
          have HR2 := Lib.hid hR2
          have HW2 := Lib.hid hW2
          clear hst hbx hR2 hW2
          go_wp2_with fail
          refine (own_all Hst.out.q (by have := HR2.out; omega)).mono ?_
          rintro e w7 ⟨v7, gb7, rfl, hr7, -, hq7, hk7⟩
          obtain ⟨B7, e7, rfl⟩ := rdU_form hr7
          rw [← HR2.out] at hr7 ⊢
          have hst7 := Hst.out.same hk7
          have hbx7 := Hbx.out.same hk7
          have hRR : ((R2 : Int) != (R2 : Int)) = false := by simp
          have q1 : ∀ w', Keeps nowhere w7.drew w' → w'.cell? ⟨q, 1, none⟩ = some (.int .u16 X) := fun w' hs => by simpa using ((Blk.drew hbx7).keep hs (fun h => h)).cell 1
          have hst7d := hst7.same (Keeps.refl nowhere w7).drew
          have hhas := own_has X hst7d.q (by have := HR2.out; omega)
          obtain ⟨C, hC⟩ : ∃ C, C = ts2.contains X := ⟨_, rfl⟩
          rw [← hC] at hhas
          unfold tp at hhas
          obtain ⟨K2, hK2⟩ : ∃ K2, K2 = idxR (fun y => y == X) ts2 := ⟨_, rfl⟩
          have hdK : decide ((0 : Int) ≤ K2) = C := by
            rw [hK2, idxR_any, hC, show ts2.contains X = ts2.any (fun y => y == X) by rw [List.contains_eq_any_beq]; congr 1; funext y; exact Bool.beq_comm ..]
          have hCC : (C != C) = false := by simp
          have Hr7 := Lib.hid hr7
          have Hq7 := Lib.hid hq7
          have Hk7 := Lib.hid hk7
          have Hst7 := Lib.hid hst7
          have Hbx7 := Lib.hid hbx7
          have Hst7d := Lib.hid hst7d
          have Hhas := Lib.hid hhas
          have HC := Lib.hid hC
          have HK2 := Lib.hid hK2
          clear hr7 hq7 hk7 hst7 hbx7 hst7d hhas hC hK2
          go_wp2_with fail
          refine wp_region_script [0, 1, 2, 3, 4, 5, 6, 7, 8, 10, 11, 12, 14, 15, 16] [8, 12] [.ps [0, 1, 2], .ps [3, 4, 5], .ps [6, 7], .fs [8], .ps [10, 11], .fs [12], .es [9] true, .es [13] true, .ps [14, 15, 16]] (Keeps nowhere w7.drew) rfl (by kernel_rfl) ?_
          refine wpS_ps rfl fun K hK => ?_
          simp only [List.map_cons, List.map_nil, Option.getD_some, List.getElem?_toArray, List.getElem?_cons_zero, List.getElem?_cons_succ]
          iterate 3 (first | (apply quietO_cons _ rfl; (intro w' _; go_simp; rfl)) | apply quietO_skip rfl)
          refine hK _ ?_
          clear hK K
          simp only [Act.put, List.setIfInBounds_toArray, List.set_cons_zero, List.set_cons_succ]
          refine wpS_ps rfl fun K hK => ?_
          simp only [List.map_cons, List.map_nil, Option.getD_some, List.getElem?_toArray, List.getElem?_cons_zero, List.getElem?_cons_succ]
          iterate 3 (first | (apply quietO_cons _ rfl; (intro w' _; go_simp; rfl)) | apply quietO_skip rfl)
          refine hK _ ?_
          clear hK K
          simp only [Act.put, List.setIfInBounds_toArray, List.set_cons_zero, List.set_cons_succ]
          refine wpS_ps rfl fun K hK => ?_
          simp only [List.map_cons, List.map_nil, Option.getD_some, List.getElem?_toArray, List.getElem?_cons_zero, List.getElem?_cons_succ]
          iterate 2 (first | (apply quietO_cons _ rfl; (intro w' _; go_simp; rfl)) | apply quietO_skip rfl)
          refine hK _ ?_
          clear hK K
          simp only [Act.put, List.setIfInBounds_toArray, List.set_cons_zero, List.set_cons_succ]
          refine wpS_fs rfl (Keeps.refl _ _) fun K hK => ?_
          simp only [List.map_cons, List.map_nil, Option.getD_some, List.getElem?_toArray, List.getElem?_cons_zero, List.getElem?_cons_succ]
          iterate 1 (first | (apply quietO_cons _ rfl; (intro w' hs; have c_0 := q1 w' hs; go_simp; rfl)) | apply quietO_skip rfl)
          refine hK _ ?_
          clear hK K
          simp only [Act.put, List.setIfInBounds_toArray, List.set_cons_zero, List.set_cons_succ]
          refine wpS_ps rfl fun K hK => ?_
          simp only [List.map_cons, List.map_nil, Option.getD_some, List.getElem?_toArray, List.getElem?_cons_zero, List.getElem?_cons_succ]
          iterate 2 (first | (apply quietO_cons _ rfl; (intro w' _; go_simp; rfl)) | apply quietO_skip rfl)
          refine hK _ ?_
          clear hK K
          simp only [Act.put, List.setIfInBounds_toArray, List.set_cons_zero, List.set_cons_succ]
          refine wpS_fs rfl (Keeps.refl _ _) fun K hK => ?_
          simp only [List.map_cons, List.map_nil, Option.getD_some, List.getElem?_toArray, List.getElem?_cons_zero, List.getElem?_cons_succ]
          iterate 1 (first | (apply quietO_cons _ rfl; (intro w' hs; have c_0 := q1 w' hs; go_simp; rfl)) | apply quietO_skip rfl)
          refine hK _ ?_
          clear hK K
          simp only [Act.put, List.setIfInBounds_toArray, List.set_cons_zero, List.set_cons_succ]
          refine wpS_es rfl fun K hK => ?_
          have HK := Lib.hid hK
          clear hK
          simp only [List.map_cons, List.map_nil, Option.getD_some, List.getElem?_toArray, List.getElem?_cons_zero, List.getElem?_cons_succ]
          go_wp2_with fail
          refine Hhas.out.mono ?_
          rintro e w8 ⟨rfl, h8, hk8⟩
          have hst8 := Hst7d.out.same hk8
          have hat := lat_any _ _ ts2 X w8 hst8.r.rd (by have := HR2.out; omega)
          rw [← HK2.out] at hat
          have H8 := Lib.hid h8
          have Hk8 := Lib.hid hk8
          have Hst8 := Lib.hid hst8
          have Hat := Lib.hid hat
          clear h8 hk8 hst8 hat
          go_wp2_with fail
          refine HK.out _ _ (fun _ => Hk8.out) ?_
          clear HK K
          refine wpS_es rfl fun K hK => ?_
          have HK := Lib.hid hK
          clear hK
          simp only [List.map_cons, List.map_nil, Option.getD_some, List.getElem?_toArray, List.getElem?_cons_zero, List.getElem?_cons_succ]
          go_wp2_with fail
          refine Hat.out.mono ?_
          rintro e w9 ⟨rfl, hk9⟩
          have hk89 : Keeps nowhere w7.drew w9 := Hk8.out.more hk9
          have hst9 := Hst8.out.same hk9
          have hr9 := (Hr7.out.same (Keeps.refl nowhere w7).drew).same hk89
          clear q1
          have Hk9 := Lib.hid hk9
          have Hk89 := Lib.hid hk89
          have Hst9 := Lib.hid hst9
          have Hr9 := Lib.hid hr9
          clear hk9 hk89 hst9 hr9
          go_wp2_with fail
          refine HK.out _ _ (fun _ => Hk89.out) ?_
          clear HK K
          refine wpS_ps rfl fun K hK => ?_
          simp only [List.map_cons, List.map_nil, Option.getD_some, List.getElem?_toArray, List.getElem?_cons_zero, List.getElem?_cons_succ]
          iterate 3 (first | (apply quietO_cons _ rfl; (intro w' _; go_simp; rfl)) | apply quietO_skip rfl)
          refine hK _ ?_
          clear hK K
          simp only [Act.put, List.setIfInBounds_toArray, List.set_cons_zero, List.set_cons_succ]
          refine wpS_nil ?_
          go_wp2_with fail
          go_loopw [13] (fun kv wx => ∃ k : Nat, kv = .int .i64 k ∧ k ≤ R2 ∧ Keeps nowhere w9 wx) (fun kv _ => R2 - (intOf kv).toNat)
          case atStart => exact ⟨0, rfl, Nat.zero_le _, Keeps.refl _ _⟩
          case round =>
            obtain ⟨k, rfl, hkK, hkx⟩ := hrel
            by_cases hkl : k < R2
            · have hkI : (k : Int) < R2 := by omega
              have hk0 : (0 : Int) ≤ (k : Int) := by omega
              have hk1 : IntKind.i64.wrap ((k : Int) + 1) = k + 1 := IntWalk.i64_in _ (by omega)
              obtain ⟨y, hy⟩ : ∃ y, ts2[k]? = some y := ⟨_, List.getElem?_eq_getElem (by rw [← HR2.out]; exact hkl)⟩
              obtain ⟨b7, f7, c7b, hv7, -, -, hx7⟩ := rdU_at (Hr9.out.same hkx) (by have := HR2.out; omega)
              obtain ⟨b6, f6, c6b, hv6, -, -, hx6⟩ := rdU_at (Hst9.out.r.rd.same hkx) (by have := HR2.out; omega)
              injection hv7 with hA7 hn7 hc7
              injection hv6 with hA6 hn6 hc6
              clear hn7 hc7 hn6 hc6
              subst hA7 hA6
              have x7 := hx7 k y hy
              have x6 := hx6 k y hy
              have X7 : ∀ w', w' = wr.drew → w'.cell? ⟨b7, f7 + k, none⟩ = some (.int .u16 y) := fun w' e => by rw [e]; exact x7
              have X6 : ∀ w', w' = wr.drew → w'.cell? ⟨b6, f6 + k, none⟩ = some (.int .u16 y) := fun w' e => by rw [e]; exact x6
              have hyy : ((y : Int) != (y : Int)) = false := by simp
              clear x7 x6 hx7 hx6
              have Hkx := Lib.hid hkx
              have Hy := Lib.hid hy
              clear hkx hy
              go_wp2_with fail
              refine wp_region_script [0, 1, 2, 3, 4, 5, 6, 7, 8] [3, 7] [.ps [0, 1, 2], .fs [3], .ps [4, 5, 6], .fs [7], .ps [8]] (fun w' => w' = wr.drew) rfl (by kernel_rfl) ?_
              refine wpS_ps rfl fun K hK => ?_
              simp only [List.map_cons, List.map_nil, Option.getD_some, List.getElem?_toArray, List.getElem?_cons_zero, List.getElem?_cons_succ]
              iterate 3 (first | (apply quietO_cons _ rfl; (intro w' _; go_simp; rfl)) | apply quietO_skip rfl)
              refine hK _ ?_
              clear hK K
              simp only [Act.put, List.setIfInBounds_toArray, List.set_cons_zero, List.set_cons_succ]
              refine wpS_fs rfl (rfl) fun K hK => ?_
              simp only [List.map_cons, List.map_nil, Option.getD_some, List.getElem?_toArray, List.getElem?_cons_zero, List.getElem?_cons_succ]
              iterate 1 (first | (apply quietO_cons _ rfl; (intro w' hs; have c_0 := X7 w' hs; go_simp; rfl)) | apply quietO_skip rfl)
              refine hK _ ?_
              clear hK K
              simp only [Act.put, List.setIfInBounds_toArray, List.set_cons_zero, List.set_cons_succ]
              refine wpS_ps rfl fun K hK => ?_
              simp only [List.map_cons, List.map_nil, Option.getD_some, List.getElem?_toArray, List.getElem?_cons_zero, List.getElem?_cons_succ]
              iterate 3 (first | (apply quietO_cons _ rfl; (intro w' _; go_simp; rfl)) | apply quietO_skip rfl)
              refine hK _ ?_
              clear hK K
              simp only [Act.put, List.setIfInBounds_toArray, List.set_cons_zero, List.set_cons_succ]
              refine wpS_fs rfl (rfl) fun K hK => ?_
              simp only [List.map_cons, List.map_nil, Option.getD_some, List.getElem?_toArray, List.getElem?_cons_zero, List.getElem?_cons_succ]
              iterate 1 (first | (apply quietO_cons _ rfl; (intro w' hs; have c_0 := X6 w' hs; go_simp; rfl)) | apply quietO_skip rfl)
              refine hK _ ?_
              clear hK K
              simp only [Act.put, List.setIfInBounds_toArray, List.set_cons_zero, List.set_cons_succ]
              refine wpS_ps rfl fun K hK => ?_
              simp only [List.map_cons, List.map_nil, Option.getD_some, List.getElem?_toArray, List.getElem?_cons_zero, List.getElem?_cons_succ]
              iterate 1 (first | (apply quietO_cons _ rfl; (intro w' _; go_simp; rfl)) | apply quietO_skip rfl)
              refine hK _ ?_
              clear hK K
              simp only [Act.put, List.setIfInBounds_toArray, List.set_cons_zero, List.set_cons_succ]
              refine wpS_nil ?_
              go_wp2_with fail
              go_roundw
              case rel => exact ⟨k + 1, by simp, by omega, Hkx.out.drew⟩
              case measure => simp [intOf]; omega
            · obtain rfl : R2 = k := by omega
              have hstf := Hst9.out.same hkx
              have hkI : ¬ (R2 : Int) < R2 := by omega
              have Hstf := Lib.hid hstf
              have Hkx := Lib.hid hkx
              clear hstf hkx
              go_wp2_with fail
              go_roundw
              case rel => exact ⟨i + 1, g2, h2, ts2, ws2, by simp, by omega, Hstf.out, by have := HW2.out; omega⟩
              case measure => simp [intOf]; omega
    · obtain rfl : i = L := by omega
      have hiI : ¬ (i : Int) < i := by omega
      have Hst := Lib.hid hst
      have HW := Lib.hid hW
      have HR := Lib.hid hR
      clear hst hW hR
      go_wp2_with fail
      refine (own_waits old Hst.out.q (by have := HW.out; omega)).mono ?_
      rintro e w7 ⟨v7, gb7, rfl, hr7, -, hq7, hk7⟩
      obtain ⟨B7, e7, rfl⟩ := rdU_form hr7
      obtain ⟨M, hM⟩ : ∃ M, M = (outsL ws old).length := ⟨_, rfl⟩
      rw [← hM] at hr7 ⊢
      have hMb : M ≤ W := by rw [hM, HW.out]; exact outs_len _ _
      have hst7 := Hst.out.same hk7
      have Hr7 := Lib.hid hr7
      have Hq7 := Lib.hid hq7
      have Hk7 := Lib.hid hk7
      have Hst7 := Lib.hid hst7
      have HM := Lib.hid hM
      clear hr7 hq7 hk7 hst7 hM
      go_wp2_with fail
      go_loopw [15, 16] (fun nv kv wx => ∃ k n : Nat, nv = .int .i64 n ∧ kv = .int .i64 k ∧ k ≤ W ∧ n = (outsL (ws.take k) old).length ∧ Keeps nowhere w7 wx) (fun _ kv _ => W - (intOf kv).toNat)
      case atStart => exact ⟨0, 0, rfl, rfl, Nat.zero_le _, by simp [outsL], Keeps.refl _ _⟩
      case round =>
        obtain ⟨k, n, rfl, rfl, hkW, hn, hkx⟩ := hrel
        by_cases hkl : k < W
        · have hkI : (k : Int) < W := by omega
          have hk0 : (0 : Int) ≤ (k : Int) := by omega
          have hk1 : IntKind.i64.wrap ((k : Int) + 1) = k + 1 := IntWalk.i64_in _ (by omega)
          obtain ⟨y, hy⟩ : ∃ y, ws[k]? = some y := ⟨_, List.getElem?_eq_getElem (by rw [← HW.out]; exact hkl)⟩
          have hsucc := outs_succ hy old
          obtain ⟨A', cp, hv, -, -, hu, h3', -⟩ := Hst7.out.l.rd.same hkx
          injection hv with hA hn' hc'
          clear hn' hc'
          subst hA
          obtain ⟨bw, ow, rfl, hgw, hcw⟩ := h3' (by rw [← HW.out]; omega)
          obtain ⟨y0, y1⟩ := atL (hcw k y hy)
          rw [show k * recL.n = k * 2 from rfl] at y0 y1
          obtain ⟨t1, t2⟩ := y
          simp only at y0 y1 hsucc
          clear hcw h3' hu
          by_cases ho : t2 = old
          · subst ho
            have heq : ((t2 : Int) != (t2 : Int)) = false := by simp
            rw [if_pos (by simp)] at hsucc
            have hat := outs_at hy
            rw [← hn] at hat
            have hnM : n < M := by rw [HM.out]; exact (List.getElem?_eq_some_iff.1 hat).1
            obtain ⟨b7, f7, c7b, hv7, -, -, hx7⟩ := rdU_at (Hr7.out.same hkx) (by rw [← HM.out]; omega)
            injection hv7 with hA7 hn7 hc7
            clear hn7 hc7
            subst hA7
            have x7 := hx7 n t1 hat
            have hn0 : (0 : Int) ≤ (n : Int) := by omega
            have hnI : (n : Int) < M := by omega
            have hged : decide ((M : Int) ≤ (n : Int)) = false := decide_eq_false (by omega)
            have hgeN : ¬ (M : Int) ≤ (n : Int) := by omega
            have hgen : decide (M ≤ n) = false := decide_eq_false (by omega)
            have hgeM : ¬ M ≤ n := by omega
            have hn1 : IntKind.i64.wrap ((n : Int) + 1) = n + 1 := IntWalk.i64_in _ (by omega)
            have htt : ((t1 : Int) != (t1 : Int)) = false := by simp
            have X7 : ∀ w', w' = wr.drew → w'.cell? ⟨b7, f7 + n, none⟩ = some (.int .u16 t1) := fun w' e => by rw [e]; exact x7
            have X6 : ∀ w', w' = wr.drew → w'.cell? ⟨bw, ow + k * 2, none⟩ = some (.int .u16 t1) := fun w' e => by rw [e]; exact y0
            clear x7 hx7 y0
            have Hkx := Lib.hid hkx
            have Hy := Lib.hid hy
            have Hsucc := Lib.hid hsucc
            have Hgw := Lib.hid hgw
            have Hat := Lib.hid hat
            have Hn := Lib.hid hn
            clear hkx hy hsucc hgw hat hn
            go_wp2_with fail
            refine wp_region_script [0, 1, 2, 3, 4, 5, 6, 7, 8, 9, 10, 11, 12, 13, 14, 15] [8, 13] [.ps [0, 1, 2], .ps [3, 4], .ps [5, 6, 7], .fs [8], .ps [9, 10, 11], .ps [12], .fs [13], .ps [14, 15]] (fun w' => w' = wr.drew) rfl (by kernel_rfl) ?_
            refine wpS_ps rfl fun K hK => ?_
            simp only [List.map_cons, List.map_nil, Option.getD_some, List.getElem?_toArray, List.getElem?_cons_zero, List.getElem?_cons_succ]
            iterate 3 (first | (apply quietO_cons _ rfl; (intro w' _; go_simp; rfl)) | apply quietO_skip rfl)
            refine hK _ ?_
            clear hK K
            simp only [Act.put, List.setIfInBounds_toArray, List.set_cons_zero, List.set_cons_succ]
            refine wpS_ps rfl fun K hK => ?_
            simp only [List.map_cons, List.map_nil, Option.getD_some, List.getElem?_toArray, List.getElem?_cons_zero, List.getElem?_cons_succ]
            iterate 2 (first | (apply quietO_cons _ rfl; (intro w' _; go_simp; rfl)) | apply quietO_skip rfl)
            refine hK _ ?_
            clear hK K
            simp only [Act.put, List.setIfInBounds_toArray, List.set_cons_zero, List.set_cons_succ]
            refine wpS_ps rfl fun K hK => ?_
            simp only [List.map_cons, List.map_nil, Option.getD_some, List.getElem?_toArray, List.getElem?_cons_zero, List.getElem?_cons_succ]
            iterate 3 (first | (apply quietO_cons _ rfl; (intro w' _; go_simp; rfl)) | apply quietO_skip rfl)
            refine hK _ ?_
            clear hK K
            simp only [Act.put, List.setIfInBounds_toArray, List.set_cons_zero, List.set_cons_succ]
            refine wpS_fs rfl (rfl) fun K hK => ?_
            simp only [List.map_cons, List.map_nil, Option.getD_some, List.getElem?_toArray, List.getElem?_cons_zero, List.getElem?_cons_succ]
            iterate 1 (first | (apply quietO_cons _ rfl; (intro w' hs; have c_0 := X7 w' hs; go_simp; rfl)) | apply quietO_skip rfl)
            refine hK _ ?_
            clear hK K
            simp only [Act.put, List.setIfInBounds_toArray, List.set_cons_zero, List.set_cons_succ]
            refine wpS_ps rfl fun K hK => ?_
            simp only [List.map_cons, List.map_nil, Option.getD_some, List.getElem?_toArray, List.getElem?_cons_zero, List.getElem?_cons_succ]
            iterate 3 (first | (apply quietO_cons _ rfl; (intro w' _; go_simp; rfl)) | apply quietO_skip rfl)
            refine hK _ ?_
            clear hK K
            simp only [Act.put, List.setIfInBounds_toArray, List.set_cons_zero, List.set_cons_succ]
            refine wpS_ps rfl fun K hK => ?_
            simp only [List.map_cons, List.map_nil, Option.getD_some, List.getElem?_toArray, List.getElem?_cons_zero, List.getElem?_cons_succ]
            iterate 1 (first | (apply quietO_cons _ rfl; (intro w' _; go_simp; rfl)) | apply quietO_skip rfl)
            refine hK _ ?_
            clear hK K
            simp only [Act.put, List.setIfInBounds_toArray, List.set_cons_zero, List.set_cons_succ]
            refine wpS_fs rfl (rfl) fun K hK => ?_
            simp only [List.map_cons, List.map_nil, Option.getD_some, List.getElem?_toArray, List.getElem?_cons_zero, List.getElem?_cons_succ]
            iterate 1 (first | (apply quietO_cons _ rfl; (intro w' hs; have c_0 := X6 w' hs; go_simp; rfl)) | apply quietO_skip rfl)
            refine hK _ ?_
            clear hK K
            simp only [Act.put, List.setIfInBounds_toArray, List.set_cons_zero, List.set_cons_succ]
            refine wpS_ps rfl fun K hK => ?_
            simp only [List.map_cons, List.map_nil, Option.getD_some, List.getElem?_toArray, List.getElem?_cons_zero, List.getElem?_cons_succ]
            iterate 2 (first | (apply quietO_cons _ rfl; (intro w' _; go_simp; rfl)) | apply quietO_skip rfl)
            refine hK _ ?_
            clear hK K
            simp only [Act.put, List.setIfInBounds_toArray, List.set_cons_zero, List.set_cons_succ]
            refine wpS_nil ?_
            go_wp2_with fail
            go_roundw
            case rel => exact ⟨k + 1, n + 1, by simp, by simp, by omega, by rw [Hsucc.out, List.length_append, ← Hn.out]; rfl, Hkx.out.drew⟩
            case measure => simp [intOf]; omega
          · have heq : ((t2 : Int) != (old : Int)) = true := by simp; omega
            rw [if_neg (by simpa using ho), List.append_nil] at hsucc
            have Hkx := Lib.hid hkx
            have Hy := Lib.hid hy
            have Hsucc := Lib.hid hsucc
            have Hgw := Lib.hid hgw
            have Hn := Lib.hid hn
            clear hkx hy hsucc hgw hn
            go_wp2_with fail
            go_roundw
            case rel => exact ⟨k + 1, n, rfl, by simp, by omega, by rw [Hsucc.out]; exact Hn.out, Hkx.out⟩
            case measure => simp [intOf]; omega
        · obtain rfl : W = k := by omega
          have hnM : n = M := by rw [hn, HM.out, HW.out, List.take_length]
          subst hnM
          have hkf := Hst7.out.q.k.more hkx
          have hkI : ¬ (W : Int) < W := by omega
          have hnn : ((n : Int) == (n : Int)) = true := by simp
          have Hkx := Lib.hid hkx
          have Hkf := Lib.hid hkf
          have Hn := Lib.hid hn
          clear hkx hkf hn
          go_wp2_with fail
          go_ret
          exact ⟨rfl, Hkf.out⟩
end Go.Proofs.Ytnccgmffgmfinaa
