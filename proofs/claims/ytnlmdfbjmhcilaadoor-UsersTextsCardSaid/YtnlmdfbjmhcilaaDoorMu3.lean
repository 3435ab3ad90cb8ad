/-
  Parts of the proof, joined in build order: Us7, Us8, LayB, Clone, Append, AppB, AppS, Us9, Us10.
-/
import Derived.Test.YtnlmdfbjmhcilaaDoorMu2
import Derived.Shelf.Strings.Prefix
import Derived.Test.YtnlmdfbjmhcilaaDoorProg
import Derived.Shelf.Strings.Builder1
import Derived.Shelf.Strings.Builder2
import Derived.Shelf.Strings.OnBuilder
import Derived.Ground.NamesProg
import Derived.Ground.Names2Prog
import Derived.Test.YtnlmdfbjmhcilaaDoorRows
import Derived.Deep.AppendLies
import Derived.Deep.RegionLaw
import Derived.Lib.Walk
import Derived.WalkSpells
import Derived.Maps.AppendAt
import Derived.Laws.AppendOwnNone
import Derived.Lib.AppendStr
set_option linter.unusedVariables false
set_option linter.unusedSimpArgs false
/-
  user: line.
-/
namespace Go.Proofs.YtnlmdfbjmhcilaaDoor
open Go.RowKit Go.Proofs Go.Shelf
attribute [local go_sem] strOf_size strOf_get strOf_toList

set_option maxRecDepth 8000 in
set_option maxHeartbeats 4000000 in
theorem line_any (F : Nat → Prop) (p q : Nat) (us : List (List UInt8)) (gs : List Grp) (l : List UInt8) (w : World) (h : LnT F w p q us gs) (hl : l.length ≤ 1000000) (hu : us.length ≤ 1000000) (hg : gs.length ≤ 1000000) :
    Calls Tryd.prog 47 #[.string (strOf l), .pointer (some ⟨p, 0, none⟩), .pointer (some ⟨q, 0, none⟩)] w (LineP F p q us gs l w) := by
  have hsp := split32_any l hl w
  obtain ⟨L, hL⟩ : ∃ L, L = splitL 32 l := ⟨_, rfl⟩
  have hLl : L.length ≤ 1000001 := by rw [hL, splitL_len]; have : l.count 32 ≤ l.length := List.count_le_length; omega
  have hbad := fun h w' hk => LineP.bad (F := F) (p := p) (q := q) (us := us) (gs := gs) (l := l) (w := w) (w' := w') h hk
  have hgood := fun us' gs' h w' h1 hk => LineP.good (F := F) (p := p) (q := q) (us := us) (gs := gs) (l := l) (us' := us') (gs' := gs') (w := w) (w' := w') h h1 hk
  rw [← hL] at hsp hbad hgood
  obtain ⟨n, hn⟩ : ∃ n, n = L.length := ⟨_, rfl⟩
  unfold SplitP at hsp
  rw [← hn] at hsp hLl
  clear hL
  by_cases h2 : n < 2
  · have h2I : (n : Int) < 2 := by omega
    have hb := hbad (by unfold lineR; rw [if_pos (.inl (by omega))])
    clear hgood hbad
    have Hsp := Lib.hid hsp
    have Hb := Lib.hid hb
    have H := Lib.hid h
    have Hn := Lib.hid hn
    clear hsp hb h hn
    go_enter Tryd.func47, Tryd.ntmps47
    go_wp2_with fail
    refine Hsp.out.mono ?_
    rintro e w1 ⟨b, rfl, hr1, hs1, hb1, hk1⟩
    have Hr1 := Lib.hid hr1
    have Hb1 := Lib.hid hb1
    have Hs1 := Lib.hid hs1
    have Hk1 := Lib.hid hk1
    clear hr1 hb1 hs1 hk1
    go_wp2_with fail
    refine (must_bad 2 w1).mono ?_
    rintro e w2 ⟨rfl, rfl⟩
    exact ⟨rfl, Hb.out _ Hk1.out⟩
  · have h2I : ¬ (n : Int) < 2 := by omega
    have h2D : decide ((n : Int) < 2) = false := decide_eq_false h2I
    have hcon := fun (w1 : World) (v : Value) (g : Option Nat) (hr : recStr.Rd w1 v g L) => scontains_any v g L [] w1 hr (by omega)
    cases hc : L.contains [] with
    | true =>
      have hb := hbad (by unfold lineR; rw [if_pos (.inr hc)])
      rw [hc] at hcon
      clear hgood hbad
      have Hsp := Lib.hid hsp
      have Hb := Lib.hid hb
      have H := Lib.hid h
      have Hn := Lib.hid hn
      have Hcon := Lib.hid hcon
      have Hc := Lib.hid hc
      clear hsp hb h hn hcon hc
      go_enter Tryd.func47, Tryd.ntmps47
      go_wp2_with fail
      refine Hsp.out.mono ?_
      rintro e w1 ⟨b, rfl, hr1, hs1, hb1, hk1⟩
      have Hr1 := Lib.hid hr1
      have Hb1 := Lib.hid hb1
      have Hs1 := Lib.hid hs1
      have Hk1 := Lib.hid hk1
      clear hr1 hb1 hs1 hk1
      go_wp2_with fail
      refine (Hcon.out w1 _ _ Hr1.out.rd).mono ?_
      rintro e w2 ⟨rfl, hk2⟩
      go_wp2_with fail
      refine (must_bad 2 w2).mono ?_
      rintro e w3 ⟨rfl, rfl⟩
      exact ⟨rfl, Hb.out _ (Hk1.out.more hk2)⟩
    | false =>
      have hpre : ¬ (L.length < 2 ∨ L.contains [] = true) := by rw [hc, ← hn]; simp; omega
      obtain ⟨x0, hx0⟩ : ∃ x, L[0]? = some x := ⟨_, List.getElem?_eq_getElem (by omega)⟩
      obtain ⟨x1, hx1⟩ : ∃ x, L[1]? = some x := ⟨_, List.getElem?_eq_getElem (by omega)⟩
      rw [hc] at hcon
      obtain ⟨v1, v2, xs, k1, k2, k3, k4, k5, k6, k7, k8, k9⟩ := id h
      by_cases hus : x0 = wUser
      · have e1 : ((strOf x0).toList == wUser) = true := by rw [strOf_toList, hus]; decide
        have e2 : (x0 == wUser) = true := by rw [hus]; simp
        unfold wUser at e1 e2
        by_cases hgd : n = 2 ∧ gs.length = 0
        · obtain ⟨hn2, hg0⟩ := hgd
          have hgs : gs = [] := List.eq_nil_of_length_eq_zero hg0
          have hgd2 := hgood (us ++ [x1]) gs (by unfold lineR; rw [if_neg hpre, if_pos (by rw [hx0, hus]), if_pos ⟨by omega, hg0⟩, hx1]; rfl)
          subst hgs
          have hxs : xs = [] := List.eq_nil_of_length_eq_zero k5.1
          subst hxs
          clear hgood hbad hpre hus
          obtain ⟨A2, c2, hv2, -⟩ := k4.form
          subst hn2
          have Hsp := Lib.hid hsp
          have Hgd2 := Lib.hid hgd2
          have H := Lib.hid h
          have Hn := Lib.hid hn
          have Hcon := Lib.hid hcon
          have Hc := Lib.hid hc
          have Hx0 := Lib.hid hx0
          have Hx1 := Lib.hid hx1
          have K1 := Lib.hid k1
          have K2 := Lib.hid k2
          have K3 := Lib.hid k3
          have K4 := Lib.hid k4
          have K5 := Lib.hid k5
          have K6 := Lib.hid k6
          have K7 := Lib.hid k7
          have K8 := Lib.hid k8
          have K9 := Lib.hid k9
          have Hv2 := Lib.hid hv2
          clear hsp hgd2 h hn hcon hc hx0 hx1 k1 k2 k3 k4 k5 k6 k7 k8 k9 hv2
          go_enter Tryd.func47, Tryd.ntmps47
          go_wp2_with fail
          refine Hsp.out.mono ?_
          rintro e w1 ⟨b, rfl, hr1, hs1, hb1, hk1⟩
          have Hr1 := Lib.hid hr1
          have Hb1 := Lib.hid hb1
          have Hs1 := Lib.hid hs1
          have Hk1 := Lib.hid hk1
          clear hr1 hb1 hs1 hk1
          go_wp2_with fail
          refine (Hcon.out w1 _ _ Hr1.out.rd).mono ?_
          rintro e w2 ⟨rfl, hk2⟩
          have Hk2 := Lib.hid hk2
          clear hk2
          go_wp2_with fail
          try rw [h2D]
          refine (must_ok 2 w2).mono ?_
          rintro e w3 ⟨rfl, rfl⟩
          have h0n : (0 : Int) < (2 : Nat) := by decide
          have d0 := atSt ((Hr1.out.same Hk2.out).at_ Hx0.out)
          rw [Nat.zero_mul] at d0
          have hk13 := Hk1.out.more Hk2.out
          have d1 := (K2.out.keep hk13 (fun h => h)).cell 0
          simp [Hv2.out] at d1
          have Hk13 := Lib.hid hk13
          clear hk13
          go_wp2_with fail
          refine (must_ok 2 w3).mono ?_
          rintro e w4 ⟨rfl, rfl⟩
          clear d0 d1
          have hkd := Hk13.out.drew
          have q1 : ∀ w', Keeps nowhere w4.drew w' → w'.cell? ⟨p, 0, none⟩ = some v1 := fun w' e => by simpa using (K1.out.keep (hkd.more e) (fun h => h)).cell 0
          have q2 : ∀ w', Keeps nowhere w4.drew w' → w'.cell? ⟨b, 1, none⟩ = some (.string (strOf x1)) := fun w' e => by
            have := atSt ((Hr1.out.same (Hk2.out.drew.more e)).at_ Hx1.out)
            rwa [Nat.one_mul] at this
          have Hkd := Lib.hid hkd
          clear hkd
          go_wp2_with fail
          refine wp_region_script [0, 1, 2, 3, 4, 5] [3] [.ps [0, 1, 2], .fs [3], .ps [4, 5], .es [6] true, .es [7] true, .es [8, 9, 10] false] (Keeps nowhere w4.drew) rfl (by kernel_rfl) ?_
          refine wpS_ps rfl fun K hK => ?_
          simp only [List.map_cons, List.map_nil, Option.getD_some, List.getElem?_toArray, List.getElem?_cons_zero, List.getElem?_cons_succ]
          iterate 3 (first | (apply quietO_cons _ rfl; (intro w' _; go_simp; rfl)) | apply quietO_skip rfl)
          refine hK _ ?_
          clear hK K
          simp only [Act.put, List.setIfInBounds_toArray, List.set_cons_zero, List.set_cons_succ]
          refine wpS_fs rfl (Keeps.refl _ _) fun K hK => ?_
          simp only [List.map_cons, List.map_nil, Option.getD_some, List.getElem?_toArray, List.getElem?_cons_zero, List.getElem?_cons_succ]
          iterate 1 (first | (apply quietO_cons _ rfl; (intro w' hs; have c_0 := q1 w' hs; go_simp; rfl)) | apply quietO_skip rfl)
          refine hK _ ?_
          clear hK K
          simp only [Act.put, List.setIfInBounds_toArray, List.set_cons_zero, List.set_cons_succ]
          refine wpS_ps rfl fun K hK => ?_
          simp only [List.map_cons, List.map_nil, Option.getD_some, List.getElem?_toArray, List.getElem?_cons_zero, List.getElem?_cons_succ]
          iterate 2 (first | (apply quietO_cons _ rfl; (intro w' _; go_simp; rfl)) | apply quietO_skip rfl)
          refine hK _ ?_
          clear hK K
          simp only [Act.put, List.setIfInBounds_toArray, List.set_cons_zero, List.set_cons_succ]
          have r2 := q2 _ (Keeps.refl _ _)
          clear q1 q2
          refine wpS_es rfl fun K hK => ?_
          have HK := Lib.hid hK
          clear hK
          simp only [List.map_cons, List.map_nil, Option.getD_some, List.getElem?_toArray, List.getElem?_cons_zero, List.getElem?_cons_succ]
          go_wp2_with fail
          go_wp2_with fail
          refine HK.out _ _ (fun _ => Keeps.refl _ _) ?_
          clear HK K
          have hka := (Keeps.refl nowhere w4.drew).alloc (.cells #[.string (strOf x1)] 9)
          have hk5 := Hkd.out.more hka
          have hrow := K3.out.same hk5
          have hrd := RecT.Rd.one recStr w4.drew x1
          have hlb : us.length + [x1].length ≤ 100000000 := by simp; omega
          have hb5 := K1.out.keep hk5 (fun h => h)
          have hb6 := K2.out.keep hk5 (fun h => h)
          have hr5 := K4.out.same hk5
          have hne5 := row_str_ne hrow hb5 (by decide)
          have hne6 := row_str_ne hrow hb6 (by decide)
          have hng5 : ∀ b, v2.ownBlock = some b → ¬ v1.ownBlock = some b := fun b e e2 => row_SG_ne hrow hr5 b e2 e
          have Hka := Lib.hid hka
          have Hk5 := Lib.hid hk5
          have Hrow := Lib.hid hrow
          have Hrd := Lib.hid hrd
          have Hlb := Lib.hid hlb
          have Hb5 := Lib.hid hb5
          have Hb6 := Lib.hid hb6
          have Hr5 := Lib.hid hr5
          have Hne5 := Lib.hid hne5
          have Hne6 := Lib.hid hne6
          have Hng5 := Lib.hid hng5
          clear hka hk5 hrow hrd hlb hb5 hb6 hr5 hne5 hne6 hng5
          refine wpS_es rfl fun K hK => ?_
          have HK := Lib.hid hK
          clear hK
          simp only [List.map_cons, List.map_nil, Option.getD_some, List.getElem?_toArray, List.getElem?_cons_zero, List.getElem?_cons_succ]
          go_wp2_with fail
          go_wp2_with fail
          refine HK.out _ _ (fun _ => Hka.out) ?_
          clear HK K
          refine wpS_es rfl fun K hK => ?_
          have HK := Lib.hid hK
          clear hK
          simp only [List.map_cons, List.map_nil, Option.getD_some, List.getElem?_toArray, List.getElem?_cons_zero, List.getElem?_cons_succ]
          go_wp2_with (at_builtin; go_must (refine RecT.wpList_append (R := recStr) Tryd.underlying47 infoStr rfl (by decide) rfl (.tmp 37) (.tmp 41) rfl _ us rfl Hrow.out _ _ [x1] rfl Hrd.out Hlb.out ?_))
          intro v6 w6 hrow6 hk6 hf6
          have hp6 := Hb5.out.keep hk6 (fun e => Hne5.out e)
          have hq6 := Hb6.out.keep hk6 (fun e => Hne6.out e)
          have hr6 := Hr5.out.keep hk6 (fun b hb e => Hng5.out b hb e)
          have c6 := hp6.cell 0
          have f6 := hp6.frozen 0
          simp at c6
          have hb7 := hp6.set_ 0 v6
          simp at hb7
          have hk7 : Keeps (only p) w6 (w6.setCell ⟨p, 0, none⟩ v6) := (Keeps.refl (only p) w6).setCell (p := ⟨p, 0, none⟩) (fun _ => rfl) v6
          have hnev6 := row_str_ne hrow6 hp6 (by decide)
          have hrow7 := hrow6.keep hk7 (fun b e e2 => hnev6 (by rw [e]; exact congrArg some e2))
          have hg6 := row_G_ne hr6 hp6 (by decide)
          have hr7 := hr6.keep hk7 (fun b e e2 => hg6 (by rw [e]; exact congrArg some e2))
          have hq7 := hq6.keep hk7 (fun e => hp6.ne_ hq6 (by decide) e.symm)
          have hfin : LnT (More F w.heap.size) (w6.setCell ⟨p, 0, none⟩ v6) p q (us ++ [x1]) [] := by
            refine ⟨v6, v2, [], hb7, hq7, hrow7, hr7, Each.nil, .inl K6.out, .inl K7.out, fun b e => ?_, fun b e => .inl (K9.out b e)⟩
            rcases hf6 b e with h | h
            · exact .inl (K8.out b h)
            · right
              have := Hk5.out.size
              simp at this
              omega
          have hkf : Keeps F w (w6.setCell ⟨p, 0, none⟩ v6) := by
            have a1 : Keeps F w w6 := (Hk5.out.mono (T := F) (fun _ _ h => h.elim)).trans hk6 (fun b hb e => K8.out b e)
            exact a1.setCell (p := ⟨p, 0, none⟩) (fun _ => K6.out) _
          have hres := Hgd2.out _ hfin hkf
          obtain ⟨A6, d6, hv6, -⟩ := hrow6.form
          clear hk6 hf6 hp6 hq6 hr6 hb7 hk7 hnev6 hrow7 hg6 hr7 hrow6 hq7 hfin hkf
          have Hres := Lib.hid hres
          clear hres
          generalize (us ++ [x1]).length = N6 at hv6
          subst hv6
          go_wp2_with fail
          refine HK.out _ _ (fun h => by cases h) ?_
          clear HK K
          refine wpS_nil ?_
          go_wp2_with fail
          refine bodyPost_end (results_none rfl _ _ _) rfl ?_
          exact Hres.out
        · have hb := hbad (by unfold lineR; rw [if_neg hpre, if_pos (by rw [hx0, hus]), if_neg (by rw [← hn]; exact hgd)])
          clear hgood hbad hpre hus
          by_cases hn2 : n = 2
          · have hg0 : 0 < gs.length := by omega
            have hg0x : (0 : Int) < xs.length := by have := k5.1; omega
            have hg0N : 0 < xs.length := by have := k5.1; omega
            obtain ⟨A2, c2, hv2, -⟩ := k4.form
            subst hn2
            have Hsp := Lib.hid hsp
            have Hb := Lib.hid hb
            have H := Lib.hid h
            have Hn := Lib.hid hn
            have Hcon := Lib.hid hcon
            have Hc := Lib.hid hc
            have Hx0 := Lib.hid hx0
            have Hx1 := Lib.hid hx1
            have K1 := Lib.hid k1
            have K2 := Lib.hid k2
            have K3 := Lib.hid k3
            have K4 := Lib.hid k4
            have K5 := Lib.hid k5
            have K6 := Lib.hid k6
            have K7 := Lib.hid k7
            have K8 := Lib.hid k8
            have K9 := Lib.hid k9
            have Hv2 := Lib.hid hv2
            clear hsp hb h hn hcon hc hx0 hx1 k1 k2 k3 k4 k5 k6 k7 k8 k9 hv2
            go_enter Tryd.func47, Tryd.ntmps47
            go_wp2_with fail
            refine Hsp.out.mono ?_
            rintro e w1 ⟨b, rfl, hr1, hs1, hb1, hk1⟩
            have Hr1 := Lib.hid hr1
            have Hb1 := Lib.hid hb1
            have Hs1 := Lib.hid hs1
            have Hk1 := Lib.hid hk1
            clear hr1 hb1 hs1 hk1
            go_wp2_with fail
            refine (Hcon.out w1 _ _ Hr1.out.rd).mono ?_
            rintro e w2 ⟨rfl, hk2⟩
            have Hk2 := Lib.hid hk2
            clear hk2
            go_wp2_with fail
            try rw [h2D]
            refine (must_ok 2 w2).mono ?_
            rintro e w3 ⟨rfl, rfl⟩
            have h0n : (0 : Int) < (2 : Nat) := by decide
            have d0 := atSt ((Hr1.out.same Hk2.out).at_ Hx0.out)
            rw [Nat.zero_mul] at d0
            have hk13 := Hk1.out.more Hk2.out
            have d1 := (K2.out.keep hk13 (fun h => h)).cell 0
            simp [Hv2.out] at d1
            have Hk13 := Lib.hid hk13
            clear hk13
            go_wp2_with fail
            refine (must_bad 2 w3).mono ?_
            rintro e w4 ⟨rfl, rfl⟩
            exact ⟨rfl, Hb.out _ Hk13.out⟩
          · have hn2I : ((n : Int) != 2) = true := by simp; omega
            have hn2I2 : ((n : Int) == 2) = false := by simp; omega
            clear k1 k2 k3 k4 k5 k6 k7 k8 k9
            have Hsp := Lib.hid hsp
            have Hb := Lib.hid hb
            have H := Lib.hid h
            have Hn := Lib.hid hn
            have Hcon := Lib.hid hcon
            have Hc := Lib.hid hc
            have Hx0 := Lib.hid hx0
            have Hx1 := Lib.hid hx1
            clear hsp hb h hn hcon hc hx0 hx1
            go_enter Tryd.func47, Tryd.ntmps47
            go_wp2_with fail
            refine Hsp.out.mono ?_
            rintro e w1 ⟨b, rfl, hr1, hs1, hb1, hk1⟩
            have Hr1 := Lib.hid hr1
            have Hb1 := Lib.hid hb1
            have Hs1 := Lib.hid hs1
            have Hk1 := Lib.hid hk1
            clear hr1 hb1 hs1 hk1
            go_wp2_with fail
            refine (Hcon.out w1 _ _ Hr1.out.rd).mono ?_
            rintro e w2 ⟨rfl, hk2⟩
            have Hk2 := Lib.hid hk2
            clear hk2
            go_wp2_with fail
            try rw [h2D]
            refine (must_ok 2 w2).mono ?_
            rintro e w3 ⟨rfl, rfl⟩
            have h0n : (0 : Int) < n := by omega
            have d0 := atSt ((Hr1.out.same Hk2.out).at_ Hx0.out)
            rw [Nat.zero_mul] at d0
            go_wp2_with fail
            refine (must_bad 2 w3).mono ?_
            rintro e w4 ⟨rfl, rfl⟩
            exact ⟨rfl, Hb.out _ (Hk1.out.more Hk2.out)⟩
      · have e1 : ((strOf x0).toList == wUser) = false := by rw [strOf_toList]; simpa using hus
        have e2 : (x0 == wUser) = false := by simpa using hus
        unfold wUser at e1 e2
        by_cases hgr : x0 = wGroup
        · have g1 : ((strOf x0).toList == wGroup) = true := by rw [strOf_toList, hgr]; decide
          have g2 : (x0 == wGroup) = true := by rw [hgr]; simp
          unfold wGroup at g1 g2
          have hgd2 := hgood us (gs ++ [⟨x1, L.drop 2⟩]) (by unfold lineR; rw [if_neg hpre, if_neg (by rw [hx0]; intro e; injection e with e; exact hus e), if_pos (by rw [hx0, hgr]), hx1]; rfl)
          clear hgood hbad hpre hus hgr
          by_cases h22 : n = 2
          · subst h22
            have Hsp := Lib.hid hsp
            have Hgd2 := Lib.hid hgd2
            have H := Lib.hid h
            have Hn := Lib.hid hn
            have Hcon := Lib.hid hcon
            have Hc := Lib.hid hc
            have Hx0 := Lib.hid hx0
            have Hx1 := Lib.hid hx1
            have K1 := Lib.hid k1
            have K2 := Lib.hid k2
            have K3 := Lib.hid k3
            have K4 := Lib.hid k4
            have K5 := Lib.hid k5
            have K6 := Lib.hid k6
            have K7 := Lib.hid k7
            have K8 := Lib.hid k8
            have K9 := Lib.hid k9
            clear hsp hgd2 h hn hcon hc hx0 hx1 k1 k2 k3 k4 k5 k6 k7 k8 k9
            go_enter Tryd.func47, Tryd.ntmps47
            go_wp2_with fail
            refine Hsp.out.mono ?_
            rintro e w1 ⟨b, rfl, hr1, hs1, hb1, hk1⟩
            have Hr1 := Lib.hid hr1
            have Hb1 := Lib.hid hb1
            have Hs1 := Lib.hid hs1
            have Hk1 := Lib.hid hk1
            clear hr1 hb1 hs1 hk1
            go_wp2_with fail
            refine (Hcon.out w1 _ _ Hr1.out.rd).mono ?_
            rintro e w2 ⟨rfl, hk2⟩
            have Hk2 := Lib.hid hk2
            clear hk2
            go_wp2_with fail
            refine (must_ok 2 w2).mono ?_
            rintro e w3 ⟨rfl, rfl⟩
            have h0n : (0 : Int) < (2 : Nat) := by decide
            have d0 := atSt ((Hr1.out.same Hk2.out).at_ Hx0.out)
            rw [Nat.zero_mul] at d0
            have hk13 := Hk1.out.more Hk2.out
            have Hk13 := Lib.hid hk13
            clear hk13
            have hkd := Hk13.out.drew
            have q1 : ∀ w', Keeps nowhere w3.drew w' → w'.cell? ⟨q, 0, none⟩ = some v2 := fun w' e => by simpa using (K2.out.keep (hkd.more e) (fun h => h)).cell 0
            have q2 : ∀ w', Keeps nowhere w3.drew w' → w'.cell? ⟨b, 1, none⟩ = some (.string (strOf x1)) := fun w' e => by
              have := atSt ((Hr1.out.same (Hk2.out.drew.more e)).at_ Hx1.out)
              rwa [Nat.one_mul] at this
            have Hkd := Lib.hid hkd
            clear hkd
            go_wp2_with fail
            refine wp_region_script [0, 1, 2, 3, 4, 5, 6, 7, 8, 9] [3, 6] [.ps [0, 1, 2], .fs [3], .ps [4, 5], .fs [6], .ps [7, 8, 9], .es [10] true, .es [11, 12, 13] false] (Keeps nowhere w3.drew) rfl (by kernel_rfl) ?_
            refine wpS_ps rfl fun K hK => ?_
            simp only [List.map_cons, List.map_nil, Option.getD_some, List.getElem?_toArray, List.getElem?_cons_zero, List.getElem?_cons_succ]
            iterate 3 (first | (apply quietO_cons _ rfl; (intro w' _; go_simp; rfl)) | apply quietO_skip rfl)
            refine hK _ ?_
            clear hK K
            simp only [Act.put, List.setIfInBounds_toArray, List.set_cons_zero, List.set_cons_succ]
            refine wpS_fs rfl (Keeps.refl _ _) fun K hK => ?_
            simp only [List.map_cons, List.map_nil, Option.getD_some, List.getElem?_toArray, List.getElem?_cons_zero, List.getElem?_cons_succ]
            iterate 1 (first | (apply quietO_cons _ rfl; (intro w' hs; have c_0 := q1 w' hs; go_simp; rfl)) | apply quietO_skip rfl)
            refine hK _ ?_
            clear hK K
            simp only [Act.put, List.setIfInBounds_toArray, List.set_cons_zero, List.set_cons_succ]
            refine wpS_ps rfl fun K hK => ?_
            simp only [List.map_cons, List.map_nil, Option.getD_some, List.getElem?_toArray, List.getElem?_cons_zero, List.getElem?_cons_succ]
            iterate 2 (first | (apply quietO_cons _ rfl; (intro w' _; go_simp; rfl)) | apply quietO_skip rfl)
            refine hK _ ?_
            clear hK K
            simp only [Act.put, List.setIfInBounds_toArray, List.set_cons_zero, List.set_cons_succ]
            refine wpS_fs rfl (Keeps.refl _ _) fun K hK => ?_
            simp only [List.map_cons, List.map_nil, Option.getD_some, List.getElem?_toArray, List.getElem?_cons_zero, List.getElem?_cons_succ]
            iterate 1 (first | (apply quietO_cons _ rfl; (intro w' hs; have c_0 := q2 w' hs; go_simp; rfl)) | apply quietO_skip rfl)
            refine hK _ ?_
            clear hK K
            simp only [Act.put, List.setIfInBounds_toArray, List.set_cons_zero, List.set_cons_succ]
            refine wpS_ps rfl fun K hK => ?_
            simp only [List.map_cons, List.map_nil, Option.getD_some, List.getElem?_toArray, List.getElem?_cons_zero, List.getElem?_cons_succ]
            iterate 3 (first | (apply quietO_cons _ rfl; (intro w' _; go_simp; rfl)) | apply quietO_skip rfl)
            refine hK _ ?_
            clear hK K
            simp only [Act.put, List.setIfInBounds_toArray, List.set_cons_zero, List.set_cons_succ]
            clear q1 q2
            refine wpS_es rfl fun K hK => ?_
            have HK := Lib.hid hK
            clear hK
            simp only [List.map_cons, List.map_nil, Option.getD_some, List.getElem?_toArray, List.getElem?_cons_zero, List.getElem?_cons_succ]
            refine RecT.wpList_buildOne (R := recG) Tryd.underlying80 infoG (by decide) rfl (.tmp 55) rfl _ rfl (⟨x1, some ⟨b, 0, none⟩, 0, 0⟩ : GrpV) rfl ?_
            obtain ⟨gx, hgx⟩ : ∃ gx : GrpV, gx = ⟨x1, some ⟨b, 0, none⟩, 0, 0⟩ := ⟨_, rfl⟩
            rw [← hgx]
            have Hgx := Lib.hid hgx
            clear hgx
            have hka := (Keeps.refl nowhere w3.drew).alloc (.cells (recG.cs gx).toArray recG.t)
            have hrd := RecT.Rd.one recG w3.drew gx
            obtain ⟨w5, hw5⟩ : ∃ w5, w5 = w3.drew.alloc (.cells (recG.cs gx).toArray recG.t) := ⟨_, rfl⟩
            obtain ⟨q5, hq5⟩ : ∃ q5, q5 = w3.drew.heap.size := ⟨_, rfl⟩
            rw [← hw5] at hka hrd ⊢
            simp only [← hq5] at hrd ⊢
            have hk5 := Hkd.out.more hka
            have hrow := K4.out.same hk5
            have hlb : xs.length + [gx].length ≤ 100000000 := by rw [K5.out.1]; simp; omega
            have hb5 := K1.out.keep hk5 (fun h => h)
            have hb6 := K2.out.keep hk5 (fun h => h)
            have hr5 := K3.out.same hk5
            have hne5 := row_G_ne hrow hb5 (by decide)
            have hne6 := row_G_ne hrow hb6 (by decide)
            have hE5 := K5.out.imp (fun _ _ hh => hh.keep hk5 (fun _ _ _ _ h => h))
            have hng5 : ∀ b, v1.ownBlock = some b → ¬ v2.ownBlock = some b := fun b e e2 => row_SG_ne hr5 hrow b e e2
            have hL5 := (Hr1.out.same Hk2.out).same (((Keeps.refl nowhere w3).drew).more hka)
            obtain ⟨cs1, hB5⟩ := Hb1.out.elim fun cs hcs => (⟨cs, Blk.keep hcs (Hk2.out.drew.more hka) (fun h => h)⟩ : ∃ cs, Blk _ b _ cs)
            have Hka := Lib.hid hka
            have Hk5 := Lib.hid hk5
            have Hrow := Lib.hid hrow
            have Hrd := Lib.hid hrd
            have Hlb := Lib.hid hlb
            have Hb5 := Lib.hid hb5
            have Hb6 := Lib.hid hb6
            have Hr5 := Lib.hid hr5
            have Hne5 := Lib.hid hne5
            have Hne6 := Lib.hid hne6
            have Hng5 := Lib.hid hng5
            have HE5 := Lib.hid hE5
            have HL5 := Lib.hid hL5
            have HB5 := Lib.hid hB5
            have Hw5 := Lib.hid hw5
            have Hq5 := Lib.hid hq5
            clear hka hk5 hrow hrd hlb hb5 hb6 hr5 hne5 hne6 hng5 hE5 hL5 hB5 hw5 hq5
            go_wp2_with fail
            refine HK.out _ _ (fun _ => Hka.out) ?_
            clear HK K
            refine wpS_es rfl fun K hK => ?_
            have HK := Lib.hid hK
            clear hK
            simp only [List.map_cons, List.map_nil, Option.getD_some, List.getElem?_toArray, List.getElem?_cons_zero, List.getElem?_cons_succ]
            go_wp2_with (at_builtin; go_must (refine RecT.wpList_append (R := recG) Tryd.underlying80 infoG rfl (by decide) rfl (.tmp 49) (.tmp 56) rfl _ xs rfl Hrow.out _ _ [gx] rfl Hrd.out Hlb.out ?_))
            intro v6 w6 hrow6 hk6 hf6
            have hp6 := Hb5.out.keep hk6 (fun e => Hne5.out e)
            have hq6 := Hb6.out.keep hk6 (fun e => Hne6.out e)
            have hr6 := Hr5.out.keep hk6 (fun b hb e => Hng5.out b hb e)
            have hE6 := HE5.out.imp (fun _ _ hh => hh.keep hk6 (fun b cs _ hb e => row_G_ne Hrow.out hb (by decide) e))
            have hL6 := HL5.out.keep hk6 (fun b' e e2 => row_SG_ne HL5.out Hrow.out b' e e2)
            have hB6 := HB5.out.keep hk6 (fun e => row_G_ne Hrow.out HB5.out (by decide) e)
            have c6 := hq6.cell 0
            have f6 := hq6.frozen 0
            simp at c6
            have hb7 := hq6.set_ 0 v6
            simp at hb7
            have hk7 : Keeps (only q) w6 (w6.setCell ⟨q, 0, none⟩ v6) := (Keeps.refl (only q) w6).setCell (p := ⟨q, 0, none⟩) (fun _ => rfl) v6
            have hnev6 := row_G_ne hrow6 hq6 (by decide)
            have hrow7 := hrow6.keep hk7 (fun b e e2 => hnev6 (by rw [e]; exact congrArg some e2))
            have hg6 := row_str_ne hr6 hq6 (by decide)
            have hr7 := hr6.keep hk7 (fun b e e2 => hg6 (by rw [e]; exact congrArg some e2))
            have hp7 := hp6.keep hk7 (fun e => hp6.ne_ hq6 (by decide) e)
            have hE7 := hE6.imp (fun _ _ hh => hh.keep hk7 (fun b cs _ hb e => hb.ne_ hq6 (by decide) e))
            have hL7 := hL6.keep hk7 (fun b' e e2 => row_str_ne hL6 hq6 (by decide) (by rw [e]; exact congrArg some e2))
            have hB7 := hB6.keep hk7 (fun e => hB6.ne_ hq6 (by decide) e)
            have hsz := Hk5.out.size
            try simp at hsz
            have hM : GLn (More F w.heap.size) (w6.setCell ⟨q, 0, none⟩ v6) gx ⟨x1, L.drop 2⟩ := by
              rw [Hgx.out]
              refine ⟨rfl, some b, ?_, fun b' e => ?_⟩
              · have hd : L.drop 2 = [] := List.drop_of_length_le (by rw [← Hn.out]; omega)
                have hlt := hL7.lt b rfl
                unfold GrpV.sl
                rw [hd]
                exact ⟨_, 0, rfl, Nat.le_refl _, Nat.zero_le _, fun b' hb' => by injection hb' with hb'; rw [← hb']; exact hlt, fun hp => absurd hp (by simp), fun h => by cases h⟩
              · injection e with e
                subst e
                exact ⟨.inr Hs1.out, _, hB7⟩
            have hfin : LnT (More F w.heap.size) (w6.setCell ⟨q, 0, none⟩ v6) p q us (gs ++ [⟨x1, L.drop 2⟩]) := by
              refine ⟨v1, v6, _, hp7, hb7, hr7, hrow7, Each.push (hE7.imp fun y z hh => ⟨hh.1, hh.2.elim fun k hk => ⟨k, hk.1, fun b' e => ⟨.inl (hk.2 b' e).1, (hk.2 b' e).2⟩⟩⟩) hM, .inl K6.out, .inl K7.out, fun b e => .inl (K8.out b e), fun b e => ?_⟩
              rcases hf6 b e with h | h
              · exact .inl (K9.out b h)
              · right
                omega
            have hkf : Keeps F w (w6.setCell ⟨q, 0, none⟩ v6) := by
              have a1 : Keeps F w w6 := (Hk5.out.mono (T := F) (fun _ _ h => h.elim)).trans hk6 (fun b hb e => K9.out b e)
              exact a1.setCell (p := ⟨q, 0, none⟩) (fun _ => K7.out) _
            have hres := Hgd2.out _ hfin hkf
            obtain ⟨A6, d6, hv6, -⟩ := hrow6.form
            clear hk6 hf6 hp6 hq6 hr6 hE6 hL6 hB6 hb7 hk7 hnev6 hrow7 hg6 hr7 hrow6 hp7 hE7 hL7 hB7 hM hfin hkf
            have Hres := Lib.hid hres
            clear hres
            generalize (xs ++ [gx]).length = N6 at hv6
            subst hv6
            go_wp2_with fail
            refine HK.out _ _ (fun h => by cases h) ?_
            clear HK K
            refine wpS_nil ?_
            go_wp2_with fail
            refine bodyPost_end (results_none rfl _ _ _) rfl ?_
            exact Hres.out
          · have h22n : ¬ n = 2 := h22
            have Hsp := Lib.hid hsp
            have Hgd2 := Lib.hid hgd2
            have H := Lib.hid h
            have Hn := Lib.hid hn
            have Hcon := Lib.hid hcon
            have Hc := Lib.hid hc
            have Hx0 := Lib.hid hx0
            have Hx1 := Lib.hid hx1
            have K1 := Lib.hid k1
            have K2 := Lib.hid k2
            have K3 := Lib.hid k3
            have K4 := Lib.hid k4
            have K5 := Lib.hid k5
            have K6 := Lib.hid k6
            have K7 := Lib.hid k7
            have K8 := Lib.hid k8
            have K9 := Lib.hid k9
            clear hsp hgd2 h hn hcon hc hx0 hx1 k1 k2 k3 k4 k5 k6 k7 k8 k9
            go_enter Tryd.func47, Tryd.ntmps47
            go_wp2_with fail
            refine Hsp.out.mono ?_
            rintro e w1 ⟨b, rfl, hr1, hs1, hb1, hk1⟩
            have Hr1 := Lib.hid hr1
            have Hb1 := Lib.hid hb1
            have Hs1 := Lib.hid hs1
            have Hk1 := Lib.hid hk1
            clear hr1 hb1 hs1 hk1
            go_wp2_with fail
            refine (Hcon.out w1 _ _ Hr1.out.rd).mono ?_
            rintro e w2 ⟨rfl, hk2⟩
            have Hk2 := Lib.hid hk2
            clear hk2
            go_wp2_with fail
            try rw [h2D]
            refine (must_ok 2 w2).mono ?_
            rintro e w3 ⟨rfl, rfl⟩
            have h0n : (0 : Int) < n := by omega
            have d0 := atSt ((Hr1.out.same Hk2.out).at_ Hx0.out)
            rw [Nat.zero_mul] at d0
            have hk13 := Hk1.out.more Hk2.out
            have Hk13 := Lib.hid hk13
            clear hk13
            have h1n : (1 : Int) < n := by omega
            have h2n : (2 : Int) ≤ n := by omega
            have hkd := Hk13.out.drew
            have q1 : ∀ w', Keeps nowhere w3.drew w' → w'.cell? ⟨q, 0, none⟩ = some v2 := fun w' e => by simpa using (K2.out.keep (hkd.more e) (fun h => h)).cell 0
            have q2 : ∀ w', Keeps nowhere w3.drew w' → w'.cell? ⟨b, 1, none⟩ = some (.string (strOf x1)) := fun w' e => by
              have := atSt ((Hr1.out.same (Hk2.out.drew.more e)).at_ Hx1.out)
              rwa [Nat.one_mul] at this
            have Hkd := Lib.hid hkd
            clear hkd
            go_wp2_with fail
            refine wp_region_script [0, 1, 2, 3, 4, 5, 6, 7, 8, 9] [3, 6] [.ps [0, 1, 2], .fs [3], .ps [4, 5], .fs [6], .ps [7, 8, 9], .es [10] true, .es [11, 12, 13] false] (Keeps nowhere w3.drew) rfl (by kernel_rfl) ?_
            refine wpS_ps rfl fun K hK => ?_
            simp only [List.map_cons, List.map_nil, Option.getD_some, List.getElem?_toArray, List.getElem?_cons_zero, List.getElem?_cons_succ]
            iterate 3 (first | (apply quietO_cons _ rfl; (intro w' _; go_simp; rfl)) | apply quietO_skip rfl)
            refine hK _ ?_
            clear hK K
            simp only [Act.put, List.setIfInBounds_toArray, List.set_cons_zero, List.set_cons_succ]
            refine wpS_fs rfl (Keeps.refl _ _) fun K hK => ?_
            simp only [List.map_cons, List.map_nil, Option.getD_some, List.getElem?_toArray, List.getElem?_cons_zero, List.getElem?_cons_succ]
            iterate 1 (first | (apply quietO_cons _ rfl; (intro w' hs; have c_0 := q1 w' hs; go_simp; rfl)) | apply quietO_skip rfl)
            refine hK _ ?_
            clear hK K
            simp only [Act.put, List.setIfInBounds_toArray, List.set_cons_zero, List.set_cons_succ]
            refine wpS_ps rfl fun K hK => ?_
            simp only [List.map_cons, List.map_nil, Option.getD_some, List.getElem?_toArray, List.getElem?_cons_zero, List.getElem?_cons_succ]
            iterate 2 (first | (apply quietO_cons _ rfl; (intro w' _; go_simp; rfl)) | apply quietO_skip rfl)
            refine hK _ ?_
            clear hK K
            simp only [Act.put, List.setIfInBounds_toArray, List.set_cons_zero, List.set_cons_succ]
            refine wpS_fs rfl (Keeps.refl _ _) fun K hK => ?_
            simp only [List.map_cons, List.map_nil, Option.getD_some, List.getElem?_toArray, List.getElem?_cons_zero, List.getElem?_cons_succ]
            iterate 1 (first | (apply quietO_cons _ rfl; (intro w' hs; have c_0 := q2 w' hs; go_simp; rfl)) | apply quietO_skip rfl)
            refine hK _ ?_
            clear hK K
            simp only [Act.put, List.setIfInBounds_toArray, List.set_cons_zero, List.set_cons_succ]
            refine wpS_ps rfl fun K hK => ?_
            simp only [List.map_cons, List.map_nil, Option.getD_some, List.getElem?_toArray, List.getElem?_cons_zero, List.getElem?_cons_succ]
            iterate 3 (first | (apply quietO_cons _ rfl; (intro w' _; go_simp; rfl)) | apply quietO_skip rfl)
            refine hK _ ?_
            clear hK K
            simp only [Act.put, List.setIfInBounds_toArray, List.set_cons_zero, List.set_cons_succ]
            clear q1 q2
            refine wpS_es rfl fun K hK => ?_
            have HK := Lib.hid hK
            clear hK
            simp only [List.map_cons, List.map_nil, Option.getD_some, List.getElem?_toArray, List.getElem?_cons_zero, List.getElem?_cons_succ]
            refine RecT.wpList_buildOne (R := recG) Tryd.underlying80 infoG (by decide) rfl (.tmp 55) rfl _ rfl (⟨x1, some ⟨b, 2, none⟩, n - 2, n - 2⟩ : GrpV) rfl ?_
            obtain ⟨gx, hgx⟩ : ∃ gx : GrpV, gx = ⟨x1, some ⟨b, 2, none⟩, n - 2, n - 2⟩ := ⟨_, rfl⟩
            rw [← hgx]
            have Hgx := Lib.hid hgx
            clear hgx
            have hka := (Keeps.refl nowhere w3.drew).alloc (.cells (recG.cs gx).toArray recG.t)
            have hrd := RecT.Rd.one recG w3.drew gx
            obtain ⟨w5, hw5⟩ : ∃ w5, w5 = w3.drew.alloc (.cells (recG.cs gx).toArray recG.t) := ⟨_, rfl⟩
            obtain ⟨q5, hq5⟩ : ∃ q5, q5 = w3.drew.heap.size := ⟨_, rfl⟩
            rw [← hw5] at hka hrd ⊢
            simp only [← hq5] at hrd ⊢
            have hk5 := Hkd.out.more hka
            have hrow := K4.out.same hk5
            have hlb : xs.length + [gx].length ≤ 100000000 := by rw [K5.out.1]; simp; omega
            have hb5 := K1.out.keep hk5 (fun h => h)
            have hb6 := K2.out.keep hk5 (fun h => h)
            have hr5 := K3.out.same hk5
            have hne5 := row_G_ne hrow hb5 (by decide)
            have hne6 := row_G_ne hrow hb6 (by decide)
            have hE5 := K5.out.imp (fun _ _ hh => hh.keep hk5 (fun _ _ _ _ h => h))
            have hng5 : ∀ b, v1.ownBlock = some b → ¬ v2.ownBlock = some b := fun b e e2 => row_SG_ne hr5 hrow b e e2
            have hL5 := (Hr1.out.same Hk2.out).same (((Keeps.refl nowhere w3).drew).more hka)
            obtain ⟨cs1, hB5⟩ := Hb1.out.elim fun cs hcs => (⟨cs, Blk.keep hcs (Hk2.out.drew.more hka) (fun h => h)⟩ : ∃ cs, Blk _ b _ cs)
            have Hka := Lib.hid hka
            have Hk5 := Lib.hid hk5
            have Hrow := Lib.hid hrow
            have Hrd := Lib.hid hrd
            have Hlb := Lib.hid hlb
            have Hb5 := Lib.hid hb5
            have Hb6 := Lib.hid hb6
            have Hr5 := Lib.hid hr5
            have Hne5 := Lib.hid hne5
            have Hne6 := Lib.hid hne6
            have Hng5 := Lib.hid hng5
            have HE5 := Lib.hid hE5
            have HL5 := Lib.hid hL5
            have HB5 := Lib.hid hB5
            have Hw5 := Lib.hid hw5
            have Hq5 := Lib.hid hq5
            clear hka hk5 hrow hrd hlb hb5 hb6 hr5 hne5 hne6 hng5 hE5 hL5 hB5 hw5 hq5
            go_wp2_with fail
            refine HK.out _ _ (fun _ => Hka.out) ?_
            clear HK K
            refine wpS_es rfl fun K hK => ?_
            have HK := Lib.hid hK
            clear hK
            simp only [List.map_cons, List.map_nil, Option.getD_some, List.getElem?_toArray, List.getElem?_cons_zero, List.getElem?_cons_succ]
            go_wp2_with (at_builtin; go_must (refine RecT.wpList_append (R := recG) Tryd.underlying80 infoG rfl (by decide) rfl (.tmp 49) (.tmp 56) rfl _ xs rfl Hrow.out _ _ [gx] rfl Hrd.out Hlb.out ?_))
            intro v6 w6 hrow6 hk6 hf6
            have hp6 := Hb5.out.keep hk6 (fun e => Hne5.out e)
            have hq6 := Hb6.out.keep hk6 (fun e => Hne6.out e)
            have hr6 := Hr5.out.keep hk6 (fun b hb e => Hng5.out b hb e)
            have hE6 := HE5.out.imp (fun _ _ hh => hh.keep hk6 (fun b cs _ hb e => row_G_ne Hrow.out hb (by decide) e))
            have hL6 := HL5.out.keep hk6 (fun b' e e2 => row_SG_ne HL5.out Hrow.out b' e e2)
            have hB6 := HB5.out.keep hk6 (fun e => row_G_ne Hrow.out HB5.out (by decide) e)
            have c6 := hq6.cell 0
            have f6 := hq6.frozen 0
            simp at c6
            have hb7 := hq6.set_ 0 v6
            simp at hb7
            have hk7 : Keeps (only q) w6 (w6.setCell ⟨q, 0, none⟩ v6) := (Keeps.refl (only q) w6).setCell (p := ⟨q, 0, none⟩) (fun _ => rfl) v6
            have hnev6 := row_G_ne hrow6 hq6 (by decide)
            have hrow7 := hrow6.keep hk7 (fun b e e2 => hnev6 (by rw [e]; exact congrArg some e2))
            have hg6 := row_str_ne hr6 hq6 (by decide)
            have hr7 := hr6.keep hk7 (fun b e e2 => hg6 (by rw [e]; exact congrArg some e2))
            have hp7 := hp6.keep hk7 (fun e => hp6.ne_ hq6 (by decide) e)
            have hE7 := hE6.imp (fun _ _ hh => hh.keep hk7 (fun b cs _ hb e => hb.ne_ hq6 (by decide) e))
            have hL7 := hL6.keep hk7 (fun b' e e2 => row_str_ne hL6 hq6 (by decide) (by rw [e]; exact congrArg some e2))
            have hB7 := hB6.keep hk7 (fun e => hB6.ne_ hq6 (by decide) e)
            have hsz := Hk5.out.size
            try simp at hsz
            have hM : GLn (More F w.heap.size) (w6.setCell ⟨q, 0, none⟩ v6) gx ⟨x1, L.drop 2⟩ := by
              rw [Hgx.out]
              refine ⟨rfl, some b, ?_, fun b' e => ?_⟩
              · have := hL7.rd.drop 2 (by rw [← Hn.out]; omega)
                unfold GrpV.sl
                simpa [recStr, Value.ownBlock] using this
              · injection e with e
                subst e
                exact ⟨.inr Hs1.out, _, hB7⟩
            have hfin : LnT (More F w.heap.size) (w6.setCell ⟨q, 0, none⟩ v6) p q us (gs ++ [⟨x1, L.drop 2⟩]) := by
              refine ⟨v1, v6, _, hp7, hb7, hr7, hrow7, Each.push (hE7.imp fun y z hh => ⟨hh.1, hh.2.elim fun k hk => ⟨k, hk.1, fun b' e => ⟨.inl (hk.2 b' e).1, (hk.2 b' e).2⟩⟩⟩) hM, .inl K6.out, .inl K7.out, fun b e => .inl (K8.out b e), fun b e => ?_⟩
              rcases hf6 b e with h | h
              · exact .inl (K9.out b h)
              · right
                omega
            have hkf : Keeps F w (w6.setCell ⟨q, 0, none⟩ v6) := by
              have a1 : Keeps F w w6 := (Hk5.out.mono (T := F) (fun _ _ h => h.elim)).trans hk6 (fun b hb e => K9.out b e)
              exact a1.setCell (p := ⟨q, 0, none⟩) (fun _ => K7.out) _
            have hres := Hgd2.out _ hfin hkf
            obtain ⟨A6, d6, hv6, -⟩ := hrow6.form
            clear hk6 hf6 hp6 hq6 hr6 hE6 hL6 hB6 hb7 hk7 hnev6 hrow7 hg6 hr7 hrow6 hp7 hE7 hL7 hB7 hM hfin hkf
            have Hres := Lib.hid hres
            clear hres
            generalize (xs ++ [gx]).length = N6 at hv6
            subst hv6
            go_wp2_with fail
            refine HK.out _ _ (fun h => by cases h) ?_
            clear HK K
            refine wpS_nil ?_
            go_wp2_with fail
            refine bodyPost_end (results_none rfl _ _ _) rfl ?_
            exact Hres.out
        · have g1 : ((strOf x0).toList == wGroup) = false := by rw [strOf_toList]; simpa using hgr
          have g2 : (x0 == wGroup) = false := by simpa using hgr
          unfold wGroup at g1 g2
          have hb := hbad (by unfold lineR; rw [if_neg hpre, if_neg (by rw [hx0]; intro e; injection e with e; exact hus e), if_neg (by rw [hx0]; intro e; injection e with e; exact hgr e)])
          have hmi : ∀ w, (Instr.makeInterface 26 (.int .i64 2)).run Tryd.prog w = .ok (.iface 26 (.int .i64 2)) w := fun _ => by kernel_rfl
          clear hgood hbad hpre hus hgr k1 k2 k3 k4 k5 k6 k7 k8 k9
          have Hsp := Lib.hid hsp
          have Hb := Lib.hid hb
          have H := Lib.hid h
          have Hn := Lib.hid hn
          have Hcon := Lib.hid hcon
          have Hc := Lib.hid hc
          have Hx0 := Lib.hid hx0
          have Hx1 := Lib.hid hx1
          clear hsp hb h hn hcon hc hx0 hx1
          go_enter Tryd.func47, Tryd.ntmps47
          go_wp2_with fail
          refine Hsp.out.mono ?_
          rintro e w1 ⟨b, rfl, hr1, hs1, hb1, hk1⟩
          have Hr1 := Lib.hid hr1
          have Hb1 := Lib.hid hb1
          have Hs1 := Lib.hid hs1
          have Hk1 := Lib.hid hk1
          clear hr1 hb1 hs1 hk1
          go_wp2_with fail
          refine (Hcon.out w1 _ _ Hr1.out.rd).mono ?_
          rintro e w2 ⟨rfl, hk2⟩
          have Hk2 := Lib.hid hk2
          clear hk2
          go_wp2_with fail
          try rw [h2D]
          refine (must_ok 2 w2).mono ?_
          rintro e w3 ⟨rfl, rfl⟩
          have h0n : (0 : Int) < n := by omega
          have d0 := atSt ((Hr1.out.same Hk2.out).at_ Hx0.out)
          rw [Nat.zero_mul] at d0
          have hk13 := Hk1.out.more Hk2.out
          have Hk13 := Lib.hid hk13
          clear hk13
          go_wp2_with fail
          exact ⟨rfl, Hb.out _ Hk13.out⟩
end Go.Proofs.YtnlmdfbjmhcilaaDoor
/-
  user: Parse.
-/
namespace Go.Proofs.YtnlmdfbjmhcilaaDoor
open Go.RowKit Go.Proofs Go.Shelf
attribute [local go_sem] strOf_size strOf_get strOf_toList

theorem endsNl_any (s : List UInt8) (hl : s.length ≤ 1000000) (w : World) : Calls Tryd.prog 45 #[.string (strOf s), .string ⟨#[10]⟩] w fun e w' => e = .returned (.bool (Lib.hasSuffix s [10])) ∧ w' = w := by
  have hsz : (strOf s).size = s.length := by simp [strOf, ByteArray.size]
  have h := Any.strings_HasSuffix hasSufP (strOf s) ⟨#[10]⟩ w (by omega)
  rwa [show (strOf s).data.toList = s from by simp [strOf]] at h
theorem trimNl_any (l : List UInt8) (hl : l.length ≤ 1000000) (w : World) : Calls Tryd.prog 48 #[.string (strOf (l ++ [10])), .string ⟨#[10]⟩] w fun e w' => e = .returned (.string (strOf l)) ∧ w' = w := by
  have hsz : (strOf (l ++ [10])).size = l.length + 1 := by simp [strOf, ByteArray.size]
  have h := Any.strings_TrimSuffix trimSufP (strOf (l ++ [10])) ⟨#[10]⟩ w (by omega)
  rw [show (strOf (l ++ [10])).data.toList = l ++ [10] from by simp [strOf]] at h
  have ht : Lib.trimSuffix (l ++ [10]) [10] = l := by
    unfold Lib.trimSuffix Lib.hasSuffix
    simp
  rw [show (⟨#[10]⟩ : ByteArray).data.toList = [10] from rfl, ht] at h
  exact h
theorem hasSuffix_last (s : List UInt8) : Lib.hasSuffix s [10] = true ↔ s.getLast? = some 10 := by
  unfold Lib.hasSuffix
  rw [List.isSuffixOf_iff_suffix, List.singleton_suffix_iff_getLast?_eq_some]
theorem splitL_word (c : UInt8) : ∀ (s : List UInt8) (x : List UInt8), x ∈ splitL c s → x.length ≤ s.length
  | [], x, h => by simp [splitL] at h; subst h; simp
  | y :: l, x, h => by
    have ih := splitL_word c l
    unfold splitL at h
    by_cases hy : y = c
    · rw [if_pos hy] at h
      rcases List.mem_cons.1 h with h | h
      · subst h; simp
      · have := ih x h; simp; omega
    · rw [if_neg hy] at h
      cases hl : splitL c l with
      | nil => exact absurd hl (splitL_ne c l)
      | cons a t =>
        rw [hl] at h ih
        simp only at h
        rcases List.mem_cons.1 h with h | h
        · subst h
          have := ih a (List.mem_cons_self ..)
          simp; omega
        · have := ih x (List.mem_cons_of_mem _ h)
          simp; omega
/-- all is small -/
def BndU (B : Nat) (us : List (List UInt8)) (gs : List Grp) : Prop := (∀ u ∈ us, u.length ≤ B) ∧ ∀ g ∈ gs, g.nm.length ≤ B ∧ g.ms.length ≤ B
theorem lineR_bnd {B : Nat} {l : List UInt8} {us us' : List (List UInt8)} {gs gs' : List Grp} (h : lineR (splitL 32 l) us gs = some (us', gs')) (hl : l.length ≤ B) (hb : BndU B us gs) : BndU B us' gs' ∧ us'.length + gs'.length = us.length + gs.length + 1 := by
  have hw := splitL_word 32 l
  have hn := splitL_len 32 l
  have hc : l.count 32 ≤ l.length := List.count_le_length
  have h1 : ((splitL 32 l)[1]?.getD []).length ≤ B := by
    cases he : (splitL 32 l)[1]? with
    | none => simp
    | some x => have := hw x (List.mem_of_getElem? he); simp; omega
  unfold lineR at h
  split at h
  · cases h
  · split at h
    · split at h
      · injection h with h
        injection h with e1 e2
        subst e1 e2
        refine ⟨⟨fun u hu => ?_, hb.2⟩, by simp; omega⟩
        rcases List.mem_append.1 hu with hu | hu
        · exact hb.1 u hu
        · simp at hu; subst hu; exact h1
      · cases h
    · split at h
      · injection h with h
        injection h with e1 e2
        subst e1 e2
        refine ⟨⟨hb.1, fun g hg => ?_⟩, by simp; omega⟩
        rcases List.mem_append.1 hg with hg | hg
        · exact hb.2 g hg
        · simp at hg; subst hg; exact ⟨h1, by simp [hn]; omega⟩
      · cases h
theorem linesL_len (s : List UInt8) : (linesL s).length = s.count 10 := by unfold linesL; rw [List.length_dropLast, splitL_len]; omega
theorem linesL_word (s : List UInt8) (l : List UInt8) (h : l ∈ linesL s) : l.length ≤ s.length := splitL_word 10 s l (List.dropLast_subset _ h)
def ParseP (s : List UInt8) (w : World) : Ending → World → Prop := fun e w' => Keeps nowhere w w' ∧
  ((∃ us gs p, parseR s = some (us, gs) ∧ BndU s.length us gs ∧ us.length + gs.length ≤ s.length ∧ newE us gs = 0 ∧ e = .returned (.tuple #[.pointer (some ⟨p, 0, none⟩), .int .i64 0]) ∧ UT (fun b => w.heap.size ≤ b) w' p us gs) ∨ (parseE s ≠ 0 ∧ e = .returned (.tuple #[.pointer none, .int .i64 (parseE s)])))
set_option maxRecDepth 8000 in
set_option maxHeartbeats 8000000 in
theorem uparse_any (w : World) (s : List UInt8) (hl : s.length ≤ 100000) : Calls Tryd.prog 21 #[.string (strOf s)] w (ParseP s w) := by
  obtain ⟨p, hp⟩ : ∃ p, p = w.heap.size := ⟨_, rfl⟩
  obtain ⟨q, hq⟩ : ∃ q, q = w.heap.size + 1 := ⟨_, rfl⟩
  obtain ⟨w1, hw1⟩ : ∃ w1, w1 = (w.alloc (.cells #[.pointer none] 49)).alloc (.cells #[.int .i64 0] 26) := ⟨_, rfl⟩
  have hk1 : Keeps nowhere w w1 := by rw [hw1]; exact ((Keeps.refl nowhere w).alloc _).alloc _
  have hb1 : Blk w1 p 49 #[.pointer none] := by rw [hw1, hp]; exact (Blk.new _ _ _).alloc _
  have hb2 : Blk w1 q 26 #[.int .i64 0] := by
    rw [hw1, hq]
    have := Blk.new (w.alloc (.cells #[.pointer none] 49)) 26 #[.int .i64 0]
    rwa [World.size_alloc] at this
  have hsz1 : w1.heap.size = w.heap.size + 2 := by rw [hw1]; simp
  have hends := endsNl_any s (by omega) w1
  obtain ⟨c, hc⟩ : ∃ c, c = Lib.hasSuffix s [10] := ⟨_, rfl⟩
  rw [← hc] at hends
  by_cases hbad : s ≠ [] ∧ c = false
  · obtain ⟨hs0, hcf⟩ := hbad
    have hpr : parseR s = none := by unfold parseR; rw [if_pos ⟨hs0, fun e => by rw [(hasSuffix_last s).2 e, hcf] at hc; cases hc⟩]
    have hpe : parseE s = 2 := by unfold parseE; rw [hpr]
    have hse : (s == []) = false := by simpa using hs0
    have hse2 : (s != []) = true := by simpa using hs0
    have hse3 : s.isEmpty = false := by simpa using hs0
    subst hcf
    clear hs0
    have Hp := Lib.hid hp
    have Hq := Lib.hid hq
    have Hw1 := Lib.hid hw1
    have Hk1 := Lib.hid hk1
    have Hb1 := Lib.hid hb1
    have Hb2 := Lib.hid hb2
    have Hsz1 := Lib.hid hsz1
    have Hends := Lib.hid hends
    have Hc := Lib.hid hc
    have Hpr := Lib.hid hpr
    have Hpe := Lib.hid hpe
    clear hp hq hw1 hk1 hb1 hb2 hsz1 hends hc hpr hpe
    go_enter_defers Tryd.func21, Tryd.ntmps21
    go_upto_region 1 with fail
    rw [← Hw1.out]
    simp only [← Hq.out]
    simp only [← Hp.out]
    go_wp2_with fail
    refine Hends.out.mono ?_
    rintro e w2 ⟨rfl, rfl⟩
    go_wp2_with fail
    refine (must_bad 2 w2).mono ?_
    rintro e w3 ⟨rfl, rfl⟩
    obtain ⟨y5, y6, y7⟩ := caught_cells (e := 2) (by have := Hp.out; omega) (by have := Hq.out; omega) Hk1.out Hb1.out Hb2.out
    have hpan := ucaught_panic p q 2 _ 0 [] w3 Hb1.out Hb2.out
    refine leaves_cons (f := 43) (args := #[.pointer (some ⟨p, 0, none⟩), .pointer (some ⟨q, 0, none⟩)]) (by simp) (by simp [go_sem]) ?_
    refine hpan.mono ?_
    rintro e u' w'' ⟨rfl, rfl, rfl⟩
    simp [Leaves, settle, results, Tryd.results21, go_sem, y5, y6]
    exact ⟨y7, .inr ⟨by rw [Hpe.out]; decide, by rw [Hpe.out]⟩⟩
  · by_cases hs0 : s = []
    · have hse : (s == []) = true := by rw [hs0]; rfl
      have hse2 : (s != []) = false := by rw [hs0]; rfl
      have hse3 : s.isEmpty = true := by rw [hs0]; rfl
      have hrest : restL s = [] := by rw [hs0]; rfl
      have hpr : parseR s = linesR (linesL s) [] [] := by unfold parseR; rw [if_neg (by simp [hs0])]
      clear hs0 hbad
      obtain ⟨pu, hpu⟩ : ∃ pu, pu = w1.heap.size := ⟨_, rfl⟩
      obtain ⟨pg, hpg⟩ : ∃ pg, pg = w1.heap.size + 1 := ⟨_, rfl⟩
      obtain ⟨w2, hw2⟩ : ∃ w2, w2 = (w1.alloc (.cells #[.slice none 0 0] 47)).alloc (.cells #[.slice none 0 0] 80) := ⟨_, rfl⟩
      have hk12 : Keeps nowhere w1 w2 := by rw [hw2]; exact ((Keeps.refl nowhere w1).alloc _).alloc _
      have hb3 : Blk w2 pu 47 #[.slice none 0 0] := by rw [hw2, hpu]; exact (Blk.new _ _ _).alloc _
      have hb4 : Blk w2 pg 80 #[.slice none 0 0] := by
        rw [hw2, hpg]
        have := Blk.new (w1.alloc (.cells #[.slice none 0 0] 47)) 80 #[.slice none 0 0]
        rwa [World.size_alloc] at this
      have hsz2 : w2.heap.size = w1.heap.size + 2 := by rw [hw2]; simp
      have hsa := after10_any s (by omega) w2
      obtain ⟨ls, hls⟩ : ∃ ls, ls = linesL s := ⟨_, rfl⟩
      have hpl : afterL 10 s = ls.map (· ++ [10]) ++ [[]] := by rw [afterL_lines, hrest, hls]
      have hlsl : ls.length ≤ s.length := by rw [hls, linesL_len]; exact List.count_le_length
      have hlsw : ∀ l ∈ ls, l.length ≤ s.length := fun l h => linesL_word s l (by rw [← hls]; exact h)
      rw [← hls] at hpr
      unfold SplitP at hsa
      obtain ⟨n, hn⟩ : ∃ n, n = (afterL 10 s).length := ⟨_, rfl⟩
      have hnl : n = ls.length + 1 := by rw [hn, hpl]; simp
      rw [← hn] at hsa
      have Hpu := Lib.hid hpu
      have Hpg := Lib.hid hpg
      have Hw2 := Lib.hid hw2
      have Hk12 := Lib.hid hk12
      have Hb3 := Lib.hid hb3
      have Hb4 := Lib.hid hb4
      have Hsz2 := Lib.hid hsz2
      have Hsa := Lib.hid hsa
      have Hls := Lib.hid hls
      have Hpl := Lib.hid hpl
      have Hlsl := Lib.hid hlsl
      have Hlsw := Lib.hid hlsw
      have Hn := Lib.hid hn
      have Hnl := Lib.hid hnl
      have Hp := Lib.hid hp
      have Hq := Lib.hid hq
      have Hw1 := Lib.hid hw1
      have Hk1 := Lib.hid hk1
      have Hb1 := Lib.hid hb1
      have Hb2 := Lib.hid hb2
      have Hsz1 := Lib.hid hsz1
      have Hends := Lib.hid hends
      have Hc := Lib.hid hc
      have Hpr := Lib.hid hpr
      have Hrest := Lib.hid hrest
      clear hpu hpg hw2 hk12 hb3 hb4 hsz2 hsa hls hpl hlsl hlsw hn hnl hp hq hw1 hk1 hb1 hb2 hsz1 hends hc hpr hrest
      go_enter_defers Tryd.func21, Tryd.ntmps21
      go_upto_region 1 with fail
      rw [← Hw1.out]
      simp only [← Hq.out]
      simp only [← Hp.out]
      go_wp2_with fail
      refine (must_ok 2 _).mono ?_
      rintro e w3 ⟨rfl, rfl⟩
      go_upto_region 5 with fail
      rw [← Hw2.out]
      simp only [← Hpg.out]
      simp only [← Hpu.out]
      go_wp2_with fail
      refine Hsa.out.mono ?_
      rintro e w4 ⟨b4, rfl, hr4, hs4, -, hk4⟩
      obtain ⟨z, hz⟩ : ∃ z, z = w4.heap.size := ⟨_, rfl⟩
      obtain ⟨F, hF⟩ : ∃ F : Nat → Prop, F = fun b => b = pu ∨ b = pg ∨ z ≤ b := ⟨_, rfl⟩
      have hT4 : LnT F w4 pu pg [] [] := ⟨_, _, [], Hb3.out.keep hk4 (fun h => h), Hb4.out.keep hk4 (fun h => h), RecT.Row.nil _ _, RecT.Row.nil _ _, Each.nil, by rw [hF]; exact .inl rfl, by rw [hF]; exact .inr (.inl rfl), fun b e => by simp [Value.ownBlock] at e, fun b e => by simp [Value.ownBlock] at e⟩
      have hrd4 := hr4.rd
      have hb4z : b4 < z := by rw [hz]; exact hr4.lt b4 rfl
      have hF4 : ¬ F b4 := by
        rw [hF]
        have := Hpu.out; have := Hpg.out; have := Hsz2.out
        rintro (e | e | e) <;> omega
      have hFw : ∀ b, b < w.heap.size → ¬ F b := fun b hb => by
        rw [hF]
        have := Hpu.out; have := Hpg.out; have := Hsz1.out; have := Hsz2.out; have := hk4.size
        rintro (e | e | e) <;> omega
      have hFp : ¬ F p ∧ ¬ F q := by
        rw [hF]
        have := Hp.out; have := Hq.out; have := Hpu.out; have := Hpg.out; have := Hsz1.out; have := Hsz2.out; have := hk4.size
        constructor <;> (rintro (e | e | e) <;> omega)
      have hk04 := (Hk1.out.more Hk12.out).more hk4
      have hk14 := Hk12.out.more hk4
      have Hr4 := Lib.hid hr4
      have Hs4 := Lib.hid hs4
      have Hk4 := Lib.hid hk4
      have HT4 := Lib.hid hT4
      have Hrd4 := Lib.hid hrd4
      have Hz := Lib.hid hz
      have HF := Lib.hid hF
      have Hb4z := Lib.hid hb4z
      have HF4 := Lib.hid hF4
      have HFw := Lib.hid hFw
      have HFp := Lib.hid hFp
      have Hk04 := Lib.hid hk04
      have Hk14 := Lib.hid hk14
      clear hr4 hs4 hk4 hT4 hrd4 hz hF hb4z hF4 hFw hFp hk04 hk14
      go_wp2_with fail
      go_loopw [19] (fun iv wr => ∃ (i : Nat) (us : List (List UInt8)) (gs : List Grp), iv = .int .i64 i ∧ i ≤ n ∧ LnT F wr pu pg us gs ∧ Keeps F w4 wr ∧ parseR s = linesR (ls.drop i) us gs ∧ BndU s.length us gs ∧ us.length + gs.length ≤ i ∧ us.length + gs.length ≤ ls.length) (fun iv _ => n - (intOf iv).toNat)
      case atStart => exact ⟨0, [], [], rfl, Nat.zero_le _, HT4.out, Keeps.refl _ _, by rw [List.drop_zero]; exact Hpr.out, ⟨fun u h => by simp at h, fun g h => by simp at h⟩, Nat.le_refl _, Nat.zero_le _⟩
      case round =>
        obtain ⟨i, us, gs, rfl, hi, hT, hk, hpa, hbd, hle, hle2⟩ := hrel
        have hkw : Keeps nowhere w wr := Hk04.out.trans hk (fun b hb e => HFw.out b hb e)
        have hb1r := Hb1.out.keep ((Hk14.out.mono (T := F) (fun _ _ h => h.elim)).trans hk (fun _ _ e => e)) HFp.out.1
        have hb2r := Hb2.out.keep ((Hk14.out.mono (T := F) (fun _ _ h => h.elim)).trans hk (fun _ _ e => e)) HFp.out.2
        by_cases hlt : i < n
        · have hltI : (i : Int) < n := by omega
          have hi0 : (0 : Int) ≤ (i : Int) := by omega
          have hi1 : IntKind.i64.wrap ((i : Int) + 1) = i + 1 := IntWalk.i64_in _ (by have := Hlsl.out; have := Hnl.out; omega)
          obtain ⟨x, hx⟩ : ∃ x, (afterL 10 s)[i]? = some x := ⟨_, List.getElem?_eq_getElem (by rw [← Hn.out]; exact hlt)⟩
          have d0 := atSt ((Hr4.out.keep hk (fun b e => by injection e with e; subst e; exact HF4.out)).at_ hx)
          rw [show i * recStr.n = i from Nat.mul_one i] at d0
          by_cases hil : i < ls.length
          · obtain ⟨l, hlx⟩ : ∃ l, ls[i]? = some l := ⟨_, List.getElem?_eq_getElem hil⟩
            have hxl : x = l ++ [10] := by
              rw [Hpl.out, List.getElem?_append_left (by simpa using hil), List.getElem?_map, hlx] at hx
              simpa using hx.symm
            subst hxl
            have hll := Hlsw.out l (List.mem_of_getElem? hlx)
            have z1 : ((l ++ [10]) == []) = false := by simp
            have z2 : ((l ++ [10]) != []) = true := by simp
            have z3 : (l ++ [10]).isEmpty = false := by simp
            have hdr : ls.drop i = l :: ls.drop (i + 1) := by
              obtain ⟨hh, rfl⟩ := List.getElem?_eq_some_iff.1 hlx
              exact List.drop_eq_getElem_cons hh
            have htr := trimNl_any l (by omega) wr
            have hln := line_any F pu pg us gs l wr hT (by omega) (by have := Hlsl.out; omega) (by have := Hlsl.out; omega)
            rw [hdr] at hpa
            unfold linesR at hpa
            unfold LineP at hln
            cases hlr : lineR (splitL 32 l) us gs with
            | none =>
              rw [hlr] at hpa hln
              have hpe : parseE s = 2 := by unfold parseE; rw [hpa]
              have HT := Lib.hid hT
              have Hk := Lib.hid hk
              have Hpa := Lib.hid hpa
              have Hbd := Lib.hid hbd
              have Hle := Lib.hid hle
              have Hle2 := Lib.hid hle2
              have Hkw := Lib.hid hkw
              have Hb1r := Lib.hid hb1r
              have Hb2r := Lib.hid hb2r
              have Hx := Lib.hid hx
              have Hil := Lib.hid hil
              have Hlx := Lib.hid hlx
              have Hll := Lib.hid hll
              have Hdr := Lib.hid hdr
              have Htr := Lib.hid htr
              have Hln := Lib.hid hln
              have Hlr := Lib.hid hlr
              have Hpe := Lib.hid hpe
              clear hT hk hpa hbd hle hle2 hkw hb1r hb2r hx hil hlx hll hdr htr hln hlr hpe
              go_wp2_with fail
              refine Htr.out.mono ?_
              rintro e w5 ⟨rfl, rfl⟩
              go_wp2_with fail
              refine Hln.out.mono ?_
              rintro e w6 ⟨rfl, hk6⟩
              have b1 := Hb1r.out.keep hk6 (fun h => h)
              have b2 := Hb2r.out.keep hk6 (fun h => h)
              obtain ⟨y5, y6, y7⟩ := caught_cells (e := 2) (by have := Hp.out; omega) (by have := Hq.out; omega) (Hkw.out.more hk6) b1 b2
              have hpan := ucaught_panic p q 2 _ 0 [] w6 b1 b2
              clear b1 b2
              refine leaves_cons (f := 43) (args := #[.pointer (some ⟨p, 0, none⟩), .pointer (some ⟨q, 0, none⟩)]) (by simp) (by simp [go_sem]) ?_
              refine hpan.mono ?_
              rintro e u' w'' ⟨rfl, rfl, rfl⟩
              simp [Leaves, settle, results, Tryd.results21, go_sem, y5, y6]
              exact ⟨y7, .inr ⟨by rw [Hpe.out]; decide, by rw [Hpe.out]⟩⟩
            | some r =>
              obtain ⟨us', gs'⟩ := r
              rw [hlr] at hpa hln
              obtain ⟨hbd', hcnt⟩ := lineR_bnd hlr hll hbd
              have HT := Lib.hid hT
              have Hk := Lib.hid hk
              have Hpa := Lib.hid hpa
              have Hbd := Lib.hid hbd
              have Hle := Lib.hid hle
              have Hle2 := Lib.hid hle2
              have Hkw := Lib.hid hkw
              have Hb1r := Lib.hid hb1r
              have Hb2r := Lib.hid hb2r
              have Hx := Lib.hid hx
              have Hil := Lib.hid hil
              have Hlx := Lib.hid hlx
              have Hll := Lib.hid hll
              have Hdr := Lib.hid hdr
              have Htr := Lib.hid htr
              have Hln := Lib.hid hln
              have Hlr := Lib.hid hlr
              have Hbd' := Lib.hid hbd'
              have Hcnt := Lib.hid hcnt
              clear hT hk hpa hbd hle hle2 hkw hb1r hb2r hx hil hlx hll hdr htr hln hlr hbd' hcnt
              go_wp2_with fail
              refine Htr.out.mono ?_
              rintro e w5 ⟨rfl, rfl⟩
              go_wp2_with fail
              refine Hln.out.mono ?_
              rintro e w6 ⟨rfl, hT6, hk6⟩
              have hT7 := hT6.mono (F' := F) (fun b hb => by
                rcases hb with hb | hb
                · exact hb
                · rw [HF.out]; have := Hk.out.size; have := Hz.out; exact .inr (.inr (by omega)))
              have hk7 := Hk.out.trans hk6 (fun _ _ h => h)
              clear hT6 hk6
              have HT7 := Lib.hid hT7
              have Hk7 := Lib.hid hk7
              clear hT7 hk7
              go_wp2_with fail
              go_roundw
              case rel => exact ⟨i + 1, us', gs', by simp, by omega, HT7.out, Hk7.out, Hpa.out, Hbd'.out, by have := Hcnt.out; have := Hle.out; omega, by have := Hcnt.out; have := Hle.out; have := Hil.out; omega⟩
              case measure => simp [intOf]; omega
          · have hie : i = ls.length := by have := Hnl.out; omega
            have hxl : x = [] := by
              rw [Hpl.out, List.getElem?_append_right (by simp [hie]), List.length_map, hie, Nat.sub_self] at hx
              simpa using hx.symm
            subst hxl
            have z1 : (([] : List UInt8) == []) = true := rfl
            have z2 : (([] : List UInt8) != []) = false := rfl
            have z3 : ([] : List UInt8).isEmpty = true := rfl
            have hpa2 : parseR s = linesR (ls.drop (i + 1)) us gs := by rw [hpa, List.drop_of_length_le (by omega), List.drop_of_length_le (by omega)]
            have HT := Lib.hid hT
            have Hk := Lib.hid hk
            have Hpa := Lib.hid hpa
            have Hbd := Lib.hid hbd
            have Hle := Lib.hid hle
            have Hle2 := Lib.hid hle2
            have Hkw := Lib.hid hkw
            have Hb1r := Lib.hid hb1r
            have Hb2r := Lib.hid hb2r
            have Hx := Lib.hid hx
            have Hil := Lib.hid hil
            have Hie := Lib.hid hie
            have Hpa2 := Lib.hid hpa2
            clear hT hk hpa hbd hle hle2 hkw hb1r hb2r hx hil hie hpa2
            go_wp2_with fail
            go_roundw
            case rel => exact ⟨i + 1, us, gs, by simp, by omega, HT.out, Hk.out, Hpa2.out, Hbd.out, by have := Hle.out; omega, Hle2.out⟩
            case measure => simp [intOf]; omega
        · obtain rfl : i = n := by omega
          have hiI : ¬ (i : Int) < i := by omega
          have hpf : parseR s = some (us, gs) := by rw [hpa, List.drop_of_length_le (by have := Hnl.out; omega)]; rfl
          obtain ⟨v1, v2, xs, k1, k2, k3, k4, k5, k6, k7, k8, k9⟩ := id hT
          have c1 := k1.cell 0
          have c2 := k2.cell 0
          simp at c1 c2
          have hnew := unew_any wr v1 v2 _ _ us xs gs k3.rd k4.rd (k5.imp fun _ _ hh => hh.rd) (by have := Hlsl.out; omega) (by have := Hlsl.out; omega) (fun g hg => by have := hbd.2 g hg; omega) (fun u hu => by have := hbd.1 u hu; omega)
          unfold NewP at hnew
          clear k1 k2 k3 k4 k5 k6 k7 k8 k9
          have hszr := hkw.size
          by_cases hne : newE us gs = 0
          · have hnew2 := hnew.mono (R' := fun e w' => Keeps nowhere wr w' ∧ ∃ pt, e = .returned (.tuple #[.pointer (some ⟨pt, 0, none⟩), .int .i64 0]) ∧ UT (fun b => wr.heap.size ≤ b) w' pt us gs) (fun e w' h => ⟨h.1, h.2.elim (fun h => h.2) (fun h => absurd hne h.1)⟩)
            clear hnew
            have HT := Lib.hid hT
            have Hk := Lib.hid hk
            have Hpa := Lib.hid hpa
            have Hbd := Lib.hid hbd
            have Hle := Lib.hid hle
            have Hle2 := Lib.hid hle2
            have Hkw := Lib.hid hkw
            have Hb1r := Lib.hid hb1r
            have Hb2r := Lib.hid hb2r
            have Hpf := Lib.hid hpf
            have Hnew2 := Lib.hid hnew2
            have Hne := Lib.hid hne
            have Hszr := Lib.hid hszr
            clear hT hk hpa hbd hle hle2 hkw hb1r hb2r hpf hnew2 hne hszr
            go_wp2_with fail
            refine Hnew2.out.mono ?_
            rintro e w6 ⟨hk6, pt, rfl, hU6⟩
            have b1 := Hb1r.out.keep hk6 (fun h => h)
            have b2 := Hb2r.out.keep hk6 (fun h => h)
            have c1 := b1.cell 0
            have f1 := b1.frozen 0
            simp at c1
            have e2 := b2.far (p := ⟨p, 0, none⟩) (b2.ne_ b1 (by decide)) (.pointer (some ⟨pt, 0, none⟩))
            have d1 := e2.cell 0
            have d2 := e2.frozen 0
            simp at d1
            have x5 := (b1.set_ 0 (.pointer (some ⟨pt, 0, none⟩))).far (p := ⟨q, 0, none⟩) (b1.ne_ b2 (by decide)) (.int .i64 0)
            have x6 := e2.set_ 0 (.int .i64 0)
            have y5 := x5.cell 0
            have y6 := x6.cell 0
            simp at y5 y6
            have hk67 : Keeps (fun k => k = p ∨ k = q) w6 ((w6.setCell ⟨p, 0, none⟩ (.pointer (some ⟨pt, 0, none⟩))).setCell ⟨q, 0, none⟩ (.int .i64 0)) := ((Keeps.refl _ w6).setCell (p := ⟨p, 0, none⟩) (fun h => .inl rfl) _).setCell (p := ⟨q, 0, none⟩) (fun h => .inr rfl) _
            have hk7 := (Hkw.out.more hk6).trans hk67 (fun b hb e => by have := Hp.out; have := Hq.out; omega)
            have hU7 := hU6.keep hk67 (fun b hb e => by have := Hb1r.out.lt; have := Hb2r.out.lt; omega)
            have hU8 := hU7.mono (F' := fun b => w.heap.size ≤ b) (fun b hb => by have := Hszr.out; show w.heap.size ≤ b; omega)
            clear b1 b2 x5 x6 e2 hk6 hk67 hU6 hU7
            have Hk7 := Lib.hid hk7
            have HU8 := Lib.hid hU8
            clear hk7 hU8
            go_wp2_with fail
            refine leaves_cons (f := 43) (args := #[.pointer (some ⟨p, 0, none⟩), .pointer (some ⟨q, 0, none⟩)]) (by simp) (by simp [go_sem]) ?_
            refine (ucaught_idle p q _).mono ?_
            rintro e u' w'' ⟨rfl, rfl, rfl⟩
            simp [Leaves, settle, results, Tryd.results21, go_sem, y5, y6]
            exact ⟨Hk7.out, .inl ⟨us, gs, pt, Hpf.out, Hbd.out, by have := Hle2.out; have := Hlsl.out; omega, Hne.out, rfl, HU8.out⟩⟩
          · obtain ⟨x, hx⟩ : ∃ x, x = newE us gs := ⟨_, rfl⟩
            have hnew2 := hnew.mono (R' := fun e w' => Keeps nowhere wr w' ∧ e = .returned (.tuple #[.pointer none, .int .i64 x])) (fun e w' h => ⟨h.1, h.2.elim (fun h => absurd h.1 hne) (fun h => by rw [hx]; exact h.2)⟩)
            have hpe : parseE s = x := by unfold parseE; rw [hpf, hx]
            rw [← hx] at hne
            clear hnew
            have HT := Lib.hid hT
            have Hk := Lib.hid hk
            have Hpa := Lib.hid hpa
            have Hbd := Lib.hid hbd
            have Hle := Lib.hid hle
            have Hle2 := Lib.hid hle2
            have Hkw := Lib.hid hkw
            have Hb1r := Lib.hid hb1r
            have Hb2r := Lib.hid hb2r
            have Hpf := Lib.hid hpf
            have Hnew2 := Lib.hid hnew2
            have Hne := Lib.hid hne
            have Hszr := Lib.hid hszr
            have Hx := Lib.hid hx
            have Hpe := Lib.hid hpe
            clear hT hk hpa hbd hle hle2 hkw hb1r hb2r hpf hnew2 hne hszr hx hpe
            go_wp2_with fail
            refine Hnew2.out.mono ?_
            rintro e w6 ⟨hk6, rfl⟩
            have b1 := Hb1r.out.keep hk6 (fun h => h)
            have b2 := Hb2r.out.keep hk6 (fun h => h)
            have c1 := b1.cell 0
            have f1 := b1.frozen 0
            simp at c1
            have e2 := b2.far (p := ⟨p, 0, none⟩) (b2.ne_ b1 (by decide)) (.pointer none)
            have d1 := e2.cell 0
            have d2 := e2.frozen 0
            simp at d1
            obtain ⟨y5, y6, y7⟩ := caught_cells (e := x) (by have := Hp.out; omega) (by have := Hq.out; omega) (Hkw.out.more hk6) b1 b2
            clear b1 b2 e2 hk6
            have Y7 := Lib.hid y7
            clear y7
            go_wp2_with fail
            refine leaves_cons (f := 43) (args := #[.pointer (some ⟨p, 0, none⟩), .pointer (some ⟨q, 0, none⟩)]) (by simp) (by simp [go_sem]) ?_
            refine (ucaught_idle p q _).mono ?_
            rintro e u' w'' ⟨rfl, rfl, rfl⟩
            simp [Leaves, settle, results, Tryd.results21, go_sem, y5, y6]
            exact ⟨Y7.out, .inr ⟨by rw [Hpe.out]; exact Hne.out, by rw [Hpe.out]⟩⟩
    · have hct : c = true := by cases c; · exact absurd ⟨hs0, rfl⟩ hbad
                                · rfl
      have hse : (s == []) = false := by simpa using hs0
      have hse2 : (s != []) = true := by simpa using hs0
      have hse3 : s.isEmpty = false := by simpa using hs0
      have hlast : s.getLast? = some 10 := (hasSuffix_last s).1 (by rw [← hc, hct])
      have hrest : restL s = [] := (restL_end s hs0).2 hlast
      have hpr : parseR s = linesR (linesL s) [] [] := by unfold parseR; rw [if_neg (by simp [hlast])]
      subst hct
      clear hs0 hbad hlast
      obtain ⟨pu, hpu⟩ : ∃ pu, pu = w1.heap.size := ⟨_, rfl⟩
      obtain ⟨pg, hpg⟩ : ∃ pg, pg = w1.heap.size + 1 := ⟨_, rfl⟩
      obtain ⟨w2, hw2⟩ : ∃ w2, w2 = (w1.alloc (.cells #[.slice none 0 0] 47)).alloc (.cells #[.slice none 0 0] 80) := ⟨_, rfl⟩
      have hk12 : Keeps nowhere w1 w2 := by rw [hw2]; exact ((Keeps.refl nowhere w1).alloc _).alloc _
      have hb3 : Blk w2 pu 47 #[.slice none 0 0] := by rw [hw2, hpu]; exact (Blk.new _ _ _).alloc _
      have hb4 : Blk w2 pg 80 #[.slice none 0 0] := by
        rw [hw2, hpg]
        have := Blk.new (w1.alloc (.cells #[.slice none 0 0] 47)) 80 #[.slice none 0 0]
        rwa [World.size_alloc] at this
      have hsz2 : w2.heap.size = w1.heap.size + 2 := by rw [hw2]; simp
      have hsa := after10_any s (by omega) w2
      obtain ⟨ls, hls⟩ : ∃ ls, ls = linesL s := ⟨_, rfl⟩
      have hpl : afterL 10 s = ls.map (· ++ [10]) ++ [[]] := by rw [afterL_lines, hrest, hls]
      have hlsl : ls.length ≤ s.length := by rw [hls, linesL_len]; exact List.count_le_length
      have hlsw : ∀ l ∈ ls, l.length ≤ s.length := fun l h => linesL_word s l (by rw [← hls]; exact h)
      rw [← hls] at hpr
      unfold SplitP at hsa
      obtain ⟨n, hn⟩ : ∃ n, n = (afterL 10 s).length := ⟨_, rfl⟩
      have hnl : n = ls.length + 1 := by rw [hn, hpl]; simp
      rw [← hn] at hsa
      have Hpu := Lib.hid hpu
      have Hpg := Lib.hid hpg
      have Hw2 := Lib.hid hw2
      have Hk12 := Lib.hid hk12
      have Hb3 := Lib.hid hb3
      have Hb4 := Lib.hid hb4
      have Hsz2 := Lib.hid hsz2
      have Hsa := Lib.hid hsa
      have Hls := Lib.hid hls
      have Hpl := Lib.hid hpl
      have Hlsl := Lib.hid hlsl
      have Hlsw := Lib.hid hlsw
      have Hn := Lib.hid hn
      have Hnl := Lib.hid hnl
      have Hp := Lib.hid hp
      have Hq := Lib.hid hq
      have Hw1 := Lib.hid hw1
      have Hk1 := Lib.hid hk1
      have Hb1 := Lib.hid hb1
      have Hb2 := Lib.hid hb2
      have Hsz1 := Lib.hid hsz1
      have Hends := Lib.hid hends
      have Hc := Lib.hid hc
      have Hpr := Lib.hid hpr
      have Hrest := Lib.hid hrest
      clear hpu hpg hw2 hk12 hb3 hb4 hsz2 hsa hls hpl hlsl hlsw hn hnl hp hq hw1 hk1 hb1 hb2 hsz1 hends hc hpr hrest
      go_enter_defers Tryd.func21, Tryd.ntmps21
      go_upto_region 1 with fail
      rw [← Hw1.out]
      simp only [← Hq.out]
      simp only [← Hp.out]
      go_wp2_with fail
      refine Hends.out.mono ?_
      rintro e w2x ⟨rfl, rfl⟩
      go_wp2_with fail
      refine (must_ok 2 _).mono ?_
      rintro e w3 ⟨rfl, rfl⟩
      go_upto_region 5 with fail
      rw [← Hw2.out]
      simp only [← Hpg.out]
      simp only [← Hpu.out]
      go_wp2_with fail
      refine Hsa.out.mono ?_
      rintro e w4 ⟨b4, rfl, hr4, hs4, -, hk4⟩
      obtain ⟨z, hz⟩ : ∃ z, z = w4.heap.size := ⟨_, rfl⟩
      obtain ⟨F, hF⟩ : ∃ F : Nat → Prop, F = fun b => b = pu ∨ b = pg ∨ z ≤ b := ⟨_, rfl⟩
      have hT4 : LnT F w4 pu pg [] [] := ⟨_, _, [], Hb3.out.keep hk4 (fun h => h), Hb4.out.keep hk4 (fun h => h), RecT.Row.nil _ _, RecT.Row.nil _ _, Each.nil, by rw [hF]; exact .inl rfl, by rw [hF]; exact .inr (.inl rfl), fun b e => by simp [Value.ownBlock] at e, fun b e => by simp [Value.ownBlock] at e⟩
      have hrd4 := hr4.rd
      have hb4z : b4 < z := by rw [hz]; exact hr4.lt b4 rfl
      have hF4 : ¬ F b4 := by
        rw [hF]
        have := Hpu.out; have := Hpg.out; have := Hsz2.out
        rintro (e | e | e) <;> omega
      have hFw : ∀ b, b < w.heap.size → ¬ F b := fun b hb => by
        rw [hF]
        have := Hpu.out; have := Hpg.out; have := Hsz1.out; have := Hsz2.out; have := hk4.size
        rintro (e | e | e) <;> omega
      have hFp : ¬ F p ∧ ¬ F q := by
        rw [hF]
        have := Hp.out; have := Hq.out; have := Hpu.out; have := Hpg.out; have := Hsz1.out; have := Hsz2.out; have := hk4.size
        constructor <;> (rintro (e | e | e) <;> omega)
      have hk04 := (Hk1.out.more Hk12.out).more hk4
      have hk14 := Hk12.out.more hk4
      have Hr4 := Lib.hid hr4
      have Hs4 := Lib.hid hs4
      have Hk4 := Lib.hid hk4
      have HT4 := Lib.hid hT4
      have Hrd4 := Lib.hid hrd4
      have Hz := Lib.hid hz
      have HF := Lib.hid hF
      have Hb4z := Lib.hid hb4z
      have HF4 := Lib.hid hF4
      have HFw := Lib.hid hFw
      have HFp := Lib.hid hFp
      have Hk04 := Lib.hid hk04
      have Hk14 := Lib.hid hk14
      clear hr4 hs4 hk4 hT4 hrd4 hz hF hb4z hF4 hFw hFp hk04 hk14
      go_wp2_with fail
      go_loopw [19] (fun iv wr => ∃ (i : Nat) (us : List (List UInt8)) (gs : List Grp), iv = .int .i64 i ∧ i ≤ n ∧ LnT F wr pu pg us gs ∧ Keeps F w4 wr ∧ parseR s = linesR (ls.drop i) us gs ∧ BndU s.length us gs ∧ us.length + gs.length ≤ i ∧ us.length + gs.length ≤ ls.length) (fun iv _ => n - (intOf iv).toNat)
      case atStart => exact ⟨0, [], [], rfl, Nat.zero_le _, HT4.out, Keeps.refl _ _, by rw [List.drop_zero]; exact Hpr.out, ⟨fun u h => by simp at h, fun g h => by simp at h⟩, Nat.le_refl _, Nat.zero_le _⟩
      case round =>
        obtain ⟨i, us, gs, rfl, hi, hT, hk, hpa, hbd, hle, hle2⟩ := hrel
        have hkw : Keeps nowhere w wr := Hk04.out.trans hk (fun b hb e => HFw.out b hb e)
        have hb1r := Hb1.out.keep ((Hk14.out.mono (T := F) (fun _ _ h => h.elim)).trans hk (fun _ _ e => e)) HFp.out.1
        have hb2r := Hb2.out.keep ((Hk14.out.mono (T := F) (fun _ _ h => h.elim)).trans hk (fun _ _ e => e)) HFp.out.2
        by_cases hlt : i < n
        · have hltI : (i : Int) < n := by omega
          have hi0 : (0 : Int) ≤ (i : Int) := by omega
          have hi1 : IntKind.i64.wrap ((i : Int) + 1) = i + 1 := IntWalk.i64_in _ (by have := Hlsl.out; have := Hnl.out; omega)
          obtain ⟨x, hx⟩ : ∃ x, (afterL 10 s)[i]? = some x := ⟨_, List.getElem?_eq_getElem (by rw [← Hn.out]; exact hlt)⟩
          have d0 := atSt ((Hr4.out.keep hk (fun b e => by injection e with e; subst e; exact HF4.out)).at_ hx)
          rw [show i * recStr.n = i from Nat.mul_one i] at d0
          by_cases hil : i < ls.length
          · obtain ⟨l, hlx⟩ : ∃ l, ls[i]? = some l := ⟨_, List.getElem?_eq_getElem hil⟩
            have hxl : x = l ++ [10] := by
              rw [Hpl.out, List.getElem?_append_left (by simpa using hil), List.getElem?_map, hlx] at hx
              simpa using hx.symm
            subst hxl
            have hll := Hlsw.out l (List.mem_of_getElem? hlx)
            have z1 : ((l ++ [10]) == []) = false := by simp
            have z2 : ((l ++ [10]) != []) = true := by simp
            have z3 : (l ++ [10]).isEmpty = false := by simp
            have hdr : ls.drop i = l :: ls.drop (i + 1) := by
              obtain ⟨hh, rfl⟩ := List.getElem?_eq_some_iff.1 hlx
              exact List.drop_eq_getElem_cons hh
            have htr := trimNl_any l (by omega) wr
            have hln := line_any F pu pg us gs l wr hT (by omega) (by have := Hlsl.out; omega) (by have := Hlsl.out; omega)
            rw [hdr] at hpa
            unfold linesR at hpa
            unfold LineP at hln
            cases hlr : lineR (splitL 32 l) us gs with
            | none =>
              rw [hlr] at hpa hln
              have hpe : parseE s = 2 := by unfold parseE; rw [hpa]
              have HT := Lib.hid hT
              have Hk := Lib.hid hk
              have Hpa := Lib.hid hpa
              have Hbd := Lib.hid hbd
              have Hle := Lib.hid hle
              have Hle2 := Lib.hid hle2
              have Hkw := Lib.hid hkw
              have Hb1r := Lib.hid hb1r
              have Hb2r := Lib.hid hb2r
              have Hx := Lib.hid hx
              have Hil := Lib.hid hil
              have Hlx := Lib.hid hlx
              have Hll := Lib.hid hll
              have Hdr := Lib.hid hdr
              have Htr := Lib.hid htr
              have Hln := Lib.hid hln
              have Hlr := Lib.hid hlr
              have Hpe := Lib.hid hpe
              clear hT hk hpa hbd hle hle2 hkw hb1r hb2r hx hil hlx hll hdr htr hln hlr hpe
              go_wp2_with fail
              refine Htr.out.mono ?_
              rintro e w5 ⟨rfl, rfl⟩
              go_wp2_with fail
              refine Hln.out.mono ?_
              rintro e w6 ⟨rfl, hk6⟩
              have b1 := Hb1r.out.keep hk6 (fun h => h)
              have b2 := Hb2r.out.keep hk6 (fun h => h)
              obtain ⟨y5, y6, y7⟩ := caught_cells (e := 2) (by have := Hp.out; omega) (by have := Hq.out; omega) (Hkw.out.more hk6) b1 b2
              have hpan := ucaught_panic p q 2 _ 0 [] w6 b1 b2
              clear b1 b2
              refine leaves_cons (f := 43) (args := #[.pointer (some ⟨p, 0, none⟩), .pointer (some ⟨q, 0, none⟩)]) (by simp) (by simp [go_sem]) ?_
              refine hpan.mono ?_
              rintro e u' w'' ⟨rfl, rfl, rfl⟩
              simp [Leaves, settle, results, Tryd.results21, go_sem, y5, y6]
              exact ⟨y7, .inr ⟨by rw [Hpe.out]; decide, by rw [Hpe.out]⟩⟩
            | some r =>
              obtain ⟨us', gs'⟩ := r
              rw [hlr] at hpa hln
              obtain ⟨hbd', hcnt⟩ := lineR_bnd hlr hll hbd
              have HT := Lib.hid hT
              have Hk := Lib.hid hk
              have Hpa := Lib.hid hpa
              have Hbd := Lib.hid hbd
              have Hle := Lib.hid hle
              have Hle2 := Lib.hid hle2
              have Hkw := Lib.hid hkw
              have Hb1r := Lib.hid hb1r
              have Hb2r := Lib.hid hb2r
              have Hx := Lib.hid hx
              have Hil := Lib.hid hil
              have Hlx := Lib.hid hlx
              have Hll := Lib.hid hll
              have Hdr := Lib.hid hdr
              have Htr := Lib.hid htr
              have Hln := Lib.hid hln
              have Hlr := Lib.hid hlr
              have Hbd' := Lib.hid hbd'
              have Hcnt := Lib.hid hcnt
              clear hT hk hpa hbd hle hle2 hkw hb1r hb2r hx hil hlx hll hdr htr hln hlr hbd' hcnt
              go_wp2_with fail
              refine Htr.out.mono ?_
              rintro e w5 ⟨rfl, rfl⟩
              go_wp2_with fail
              refine Hln.out.mono ?_
              rintro e w6 ⟨rfl, hT6, hk6⟩
              have hT7 := hT6.mono (F' := F) (fun b hb => by
                rcases hb with hb | hb
                · exact hb
                · rw [HF.out]; have := Hk.out.size; have := Hz.out; exact .inr (.inr (by omega)))
              have hk7 := Hk.out.trans hk6 (fun _ _ h => h)
              clear hT6 hk6
              have HT7 := Lib.hid hT7
              have Hk7 := Lib.hid hk7
              clear hT7 hk7
              go_wp2_with fail
              go_roundw
              case rel => exact ⟨i + 1, us', gs', by simp, by omega, HT7.out, Hk7.out, Hpa.out, Hbd'.out, by have := Hcnt.out; have := Hle.out; omega, by have := Hcnt.out; have := Hle.out; have := Hil.out; omega⟩
              case measure => simp [intOf]; omega
          · have hie : i = ls.length := by have := Hnl.out; omega
            have hxl : x = [] := by
              rw [Hpl.out, List.getElem?_append_right (by simp [hie]), List.length_map, hie, Nat.sub_self] at hx
              simpa using hx.symm
            subst hxl
            have z1 : (([] : List UInt8) == []) = true := rfl
            have z2 : (([] : List UInt8) != []) = false := rfl
            have z3 : ([] : List UInt8).isEmpty = true := rfl
            have hpa2 : parseR s = linesR (ls.drop (i + 1)) us gs := by rw [hpa, List.drop_of_length_le (by omega), List.drop_of_length_le (by omega)]
            have HT := Lib.hid hT
            have Hk := Lib.hid hk
            have Hpa := Lib.hid hpa
            have Hbd := Lib.hid hbd
            have Hle := Lib.hid hle
            have Hle2 := Lib.hid hle2
            have Hkw := Lib.hid hkw
            have Hb1r := Lib.hid hb1r
            have Hb2r := Lib.hid hb2r
            have Hx := Lib.hid hx
            have Hil := Lib.hid hil
            have Hie := Lib.hid hie
            have Hpa2 := Lib.hid hpa2
            clear hT hk hpa hbd hle hle2 hkw hb1r hb2r hx hil hie hpa2
            go_wp2_with fail
            go_roundw
            case rel => exact ⟨i + 1, us, gs, by simp, by omega, HT.out, Hk.out, Hpa2.out, Hbd.out, by have := Hle.out; omega, Hle2.out⟩
            case measure => simp [intOf]; omega
        · obtain rfl : i = n := by omega
          have hiI : ¬ (i : Int) < i := by omega
          have hpf : parseR s = some (us, gs) := by rw [hpa, List.drop_of_length_le (by have := Hnl.out; omega)]; rfl
          obtain ⟨v1, v2, xs, k1, k2, k3, k4, k5, k6, k7, k8, k9⟩ := id hT
          have c1 := k1.cell 0
          have c2 := k2.cell 0
          simp at c1 c2
          have hnew := unew_any wr v1 v2 _ _ us xs gs k3.rd k4.rd (k5.imp fun _ _ hh => hh.rd) (by have := Hlsl.out; omega) (by have := Hlsl.out; omega) (fun g hg => by have := hbd.2 g hg; omega) (fun u hu => by have := hbd.1 u hu; omega)
          unfold NewP at hnew
          clear k1 k2 k3 k4 k5 k6 k7 k8 k9
          have hszr := hkw.size
          by_cases hne : newE us gs = 0
          · have hnew2 := hnew.mono (R' := fun e w' => Keeps nowhere wr w' ∧ ∃ pt, e = .returned (.tuple #[.pointer (some ⟨pt, 0, none⟩), .int .i64 0]) ∧ UT (fun b => wr.heap.size ≤ b) w' pt us gs) (fun e w' h => ⟨h.1, h.2.elim (fun h => h.2) (fun h => absurd hne h.1)⟩)
            clear hnew
            have HT := Lib.hid hT
            have Hk := Lib.hid hk
            have Hpa := Lib.hid hpa
            have Hbd := Lib.hid hbd
            have Hle := Lib.hid hle
            have Hle2 := Lib.hid hle2
            have Hkw := Lib.hid hkw
            have Hb1r := Lib.hid hb1r
            have Hb2r := Lib.hid hb2r
            have Hpf := Lib.hid hpf
            have Hnew2 := Lib.hid hnew2
            have Hne := Lib.hid hne
            have Hszr := Lib.hid hszr
            clear hT hk hpa hbd hle hle2 hkw hb1r hb2r hpf hnew2 hne hszr
            go_wp2_with fail
            refine Hnew2.out.mono ?_
            rintro e w6 ⟨hk6, pt, rfl, hU6⟩
            have b1 := Hb1r.out.keep hk6 (fun h => h)
            have b2 := Hb2r.out.keep hk6 (fun h => h)
            have c1 := b1.cell 0
            have f1 := b1.frozen 0
            simp at c1
            have e2 := b2.far (p := ⟨p, 0, none⟩) (b2.ne_ b1 (by decide)) (.pointer (some ⟨pt, 0, none⟩))
            have d1 := e2.cell 0
            have d2 := e2.frozen 0
            simp at d1
            have x5 := (b1.set_ 0 (.pointer (some ⟨pt, 0, none⟩))).far (p := ⟨q, 0, none⟩) (b1.ne_ b2 (by decide)) (.int .i64 0)
            have x6 := e2.set_ 0 (.int .i64 0)
            have y5 := x5.cell 0
            have y6 := x6.cell 0
            simp at y5 y6
            have hk67 : Keeps (fun k => k = p ∨ k = q) w6 ((w6.setCell ⟨p, 0, none⟩ (.pointer (some ⟨pt, 0, none⟩))).setCell ⟨q, 0, none⟩ (.int .i64 0)) := ((Keeps.refl _ w6).setCell (p := ⟨p, 0, none⟩) (fun h => .inl rfl) _).setCell (p := ⟨q, 0, none⟩) (fun h => .inr rfl) _
            have hk7 := (Hkw.out.more hk6).trans hk67 (fun b hb e => by have := Hp.out; have := Hq.out; omega)
            have hU7 := hU6.keep hk67 (fun b hb e => by have := Hb1r.out.lt; have := Hb2r.out.lt; omega)
            have hU8 := hU7.mono (F' := fun b => w.heap.size ≤ b) (fun b hb => by have := Hszr.out; show w.heap.size ≤ b; omega)
            clear b1 b2 x5 x6 e2 hk6 hk67 hU6 hU7
            have Hk7 := Lib.hid hk7
            have HU8 := Lib.hid hU8
            clear hk7 hU8
            go_wp2_with fail
            refine leaves_cons (f := 43) (args := #[.pointer (some ⟨p, 0, none⟩), .pointer (some ⟨q, 0, none⟩)]) (by simp) (by simp [go_sem]) ?_
            refine (ucaught_idle p q _).mono ?_
            rintro e u' w'' ⟨rfl, rfl, rfl⟩
            simp [Leaves, settle, results, Tryd.results21, go_sem, y5, y6]
            exact ⟨Hk7.out, .inl ⟨us, gs, pt, Hpf.out, Hbd.out, by have := Hle2.out; have := Hlsl.out; omega, Hne.out, rfl, HU8.out⟩⟩
          · obtain ⟨x, hx⟩ : ∃ x, x = newE us gs := ⟨_, rfl⟩
            have hnew2 := hnew.mono (R' := fun e w' => Keeps nowhere wr w' ∧ e = .returned (.tuple #[.pointer none, .int .i64 x])) (fun e w' h => ⟨h.1, h.2.elim (fun h => absurd h.1 hne) (fun h => by rw [hx]; exact h.2)⟩)
            have hpe : parseE s = x := by unfold parseE; rw [hpf, hx]
            rw [← hx] at hne
            clear hnew
            have HT := Lib.hid hT
            have Hk := Lib.hid hk
            have Hpa := Lib.hid hpa
            have Hbd := Lib.hid hbd
            have Hle := Lib.hid hle
            have Hle2 := Lib.hid hle2
            have Hkw := Lib.hid hkw
            have Hb1r := Lib.hid hb1r
            have Hb2r := Lib.hid hb2r
            have Hpf := Lib.hid hpf
            have Hnew2 := Lib.hid hnew2
            have Hne := Lib.hid hne
            have Hszr := Lib.hid hszr
            have Hx := Lib.hid hx
            have Hpe := Lib.hid hpe
            clear hT hk hpa hbd hle hle2 hkw hb1r hb2r hpf hnew2 hne hszr hx hpe
            go_wp2_with fail
            refine Hnew2.out.mono ?_
            rintro e w6 ⟨hk6, rfl⟩
            have b1 := Hb1r.out.keep hk6 (fun h => h)
            have b2 := Hb2r.out.keep hk6 (fun h => h)
            have c1 := b1.cell 0
            have f1 := b1.frozen 0
            simp at c1
            have e2 := b2.far (p := ⟨p, 0, none⟩) (b2.ne_ b1 (by decide)) (.pointer none)
            have d1 := e2.cell 0
            have d2 := e2.frozen 0
            simp at d1
            obtain ⟨y5, y6, y7⟩ := caught_cells (e := x) (by have := Hp.out; omega) (by have := Hq.out; omega) (Hkw.out.more hk6) b1 b2
            clear b1 b2 e2 hk6
            have Y7 := Lib.hid y7
            clear y7
            go_wp2_with fail
            refine leaves_cons (f := 43) (args := #[.pointer (some ⟨p, 0, none⟩), .pointer (some ⟨q, 0, none⟩)]) (by simp) (by simp [go_sem]) ?_
            refine (ucaught_idle p q _).mono ?_
            rintro e u' w'' ⟨rfl, rfl, rfl⟩
            simp [Leaves, settle, results, Tryd.results21, go_sem, y5, y6]
            exact ⟨Y7.out, .inr ⟨by rw [Hpe.out]; exact Hne.out, by rw [Hpe.out]⟩⟩
end Go.Proofs.YtnlmdfbjmhcilaaDoor
/- Layings of the shelf's contracts at this seat, in plain words (the kit's tool lay-plain.mjs wrote them; wip/layp.py). -/
namespace Go.Proofs.YtnlmdfbjmhcilaaDoor
open Go.Shelf Go.Proofs
def stringP_ren : Go.Shelf.Ren := ⟨fun | 169 => 53 | n => n, fun | 70 => 96 | 9 => 9 | 0 => 0 | 72 => 98 | 37 => 25 | 127 => 130 | 3 => 3 | 5 => 5 | n => n, fun | n => n⟩
theorem stringP : Go.Proofs.Lays.n169 Tryd.prog stringP_ren := {
  mixed := by kernel_rfl
  f169 := Tryd.func53.trans (congrArg some (by kernel_rfl))
  t0 := Tryd.underlying0
  a0 := Tryd.isAgg0
  z0 := Tryd.sizeOf0
  v0 := Tryd.zeroValue0
  t3 := Tryd.underlying3
  a3 := Tryd.isAgg3
  z3 := Tryd.sizeOf3
  v3 := Tryd.zeroValue3
  t9 := Tryd.underlying9
  a9 := Tryd.isAgg9
  z9 := Tryd.sizeOf9
  v9 := Tryd.zeroValue9
  t37 := Tryd.underlying25
  a37 := Tryd.isAgg25
  z37 := Tryd.sizeOf25
  v37 := Tryd.zeroValue25
  t70 := Tryd.underlying96
  a70 := Tryd.isAgg96
  z70 := Tryd.sizeOf96
  v70 := Tryd.zeroValue96
  t72 := Tryd.underlying98
  a72 := Tryd.isAgg98
  z72 := Tryd.sizeOf98
  v72 := Tryd.zeroValue98
  t127 := Tryd.underlying130
  a127 := Tryd.isAgg130
  z127 := Tryd.sizeOf130
  v127 := Tryd.zeroValue130 }
end Go.Proofs.YtnlmdfbjmhcilaaDoor
/-
  slices.Clone and slices.Clip at []byte: a copy in memory of the call's own; the same slice without spare room.
-/
namespace Go.Proofs.YtnlmdfbjmhcilaaDoor
open Go.RowKit

theorem infoU8 : (Tryd.prog.info? 5).map (fun i => (i.zero, i.size, i.bytes)) = some (some (.int .u8 0), 1, 1) := by kernel_rfl

/-- A slice of bytes that reads as `L`, in memory of the call's own. -/
def RetBytes (w : World) (L : List UInt8) : Ending → World → Prop := fun e w' =>
  ∃ v' g', e = .returned v' ∧ Rd w' v' g' (L.map bv) ∧ Above w.heap.size g' ∧ Keeps nowhere w w'

set_option maxHeartbeats 400000 in
theorem clone_nil (n c : Nat) (w : World) : Calls Tryd.prog 57 #[.slice none n c] w fun e w' => e = .returned (.slice none 0 0) ∧ w = w' := by
  have q22 := fun (w : World) (a : Option Addr) (n c n' c' : Nat) => Lib.run_eql_slice_nil (P := Tryd.prog) w 25 5 a n c n' c' Tryd.underlying25
  go_enter Tryd.func57, Tryd.ntmps57
  go_wp2
  go_ret
  exact ⟨rfl, rfl⟩

set_option maxHeartbeats 400000 in
theorem clone_some (a : Addr) (c : Nat) (L : List UInt8) (w : World) (hb : L.length ≤ 140737488351232)
    (hc : ∀ j u, (L.map bv)[j]? = some u → w.cell? (a.add j) = some u) (hlt : 0 < L.length → a.block < w.heap.size) :
    Calls Tryd.prog 57 #[.slice (some a) L.length c] w (RetBytes w L) := by
  have q22 := fun (w : World) (a : Option Addr) (n c n' c' : Nat) => Lib.run_eql_slice_nil (P := Tryd.prog) w 25 5 a n c n' c' Tryd.underlying25
  obtain ⟨i0, hi, hz0, hz1, hz2⟩ := info_parts infoU8
  have Hc := Lib.hid hc
  clear hc
  go_enter Tryd.func57, Tryd.ntmps57
  go_wp2_with (at_builtin; refine wpList_append_own _ rfl _ _ 25 rfl w.heap.size 5 i0 (.int .u8 0) 1 1 Tryd.underlying25 hi hz0 hz1 hz2 rfl (by decide) _ _ _ rfl (World.ownsRow_made w #[] 0 (Nat.le_refl _) (Nat.zero_le _) rfl) a L.length c (L.map bv) rfl ?qc1 ?qc2 ?qc3 ?qc4 ?qc5 ?qc6 ?_)
  case qc1 => simp
  case qc2 =>
    intro j u hj
    have hjn : j < L.length := by have := (List.getElem?_eq_some_iff.1 hj).1; simpa using this
    have := Hc.out j u hj
    rw [World.cell?_alloc_lt w _ _ (by rw [show (a.add j).block = a.block from by unfold Addr.add; split <;> rfl]; exact hlt (by omega))]
    exact this
  case qc3 => exact bv_one L
  case qc4 => unfold maxLen; omega
  case qc5 => omega
  case qc6 => simp
  intro v' w1 hown hgrow hnil
  go_wp2
  go_ret
  have hbel : Below w.heap.size w w1 := ((Below.refl _ w).alloc (Nat.le_refl _) _).grown hgrow (by simp) (by intro k hk; simp [Value.ownBlock] at hk; omega)
  exact ⟨v', v'.ownBlock, rfl, by simpa using Rd.of_own hown, fun b hb => (hown.lt b hb).1, Below.keeps hbel⟩

theorem clone_any (v : Value) (g : Option Nat) (L : List UInt8) (w : World) (hr : Rd w v g (L.map bv)) (hb : L.length ≤ 140737488351232) :
    Calls Tryd.prog 57 #[v] w (RetBytes w L) := by
  rcases hr with ⟨rfl, _, hL⟩ | ⟨a, cap, rfl, hu, hg, h1, h2, hc⟩
  · have : L = [] := by simpa using hL
    subst this
    refine (clone_nil 0 0 w).mono ?_
    rintro e w' ⟨rfl, rfl⟩
    exact ⟨_, none, rfl, .inl ⟨rfl, rfl, rfl⟩, Above.none _, Keeps.refl _ _⟩
  · rw [List.length_map] at h1 ⊢
    exact clone_some _ cap L w hb hc (fun hp => hu _ (hg (by simpa using hp)).1)

set_option maxHeartbeats 400000 in
theorem clip_any (v : Value) (g : Option Nat) (xs : List Value) (w : World) (hr : Rd w v g xs) :
    Calls Tryd.prog 56 #[v] w fun e w' => (∃ v', e = .returned v' ∧ Rd w v' g xs) ∧ w = w' := by
  have hm := hr.le
  unfold maxLen at hm
  rcases hr with ⟨rfl, rfl, rfl⟩ | ⟨a, cap, rfl, hb, hg, h1, h2, h3⟩
  · go_enter Tryd.func56, Tryd.ntmps56
    go_wp2
    go_ret
    exact ⟨⟨_, rfl, .inl ⟨rfl, rfl, rfl⟩⟩, rfl⟩
  · have hl : xs.length ≤ maxLen := by omega
    obtain ⟨n, hn⟩ : ∃ n, n = xs.length := ⟨_, rfl⟩
    rw [← hn] at h1 hm
    have H3 := Lib.hid h3
    have Hb := Lib.hid hb
    have Hg := Lib.hid hg
    clear h3 hb hg
    rw [← hn]
    have Hn := Lib.hid hn
    clear hn
    go_enter Tryd.func56, Tryd.ntmps56
    go_wp2
    go_ret
    refine ⟨⟨_, rfl, ?_⟩, rfl⟩
    have hn := Hn.out
    subst hn
    exact .inr ⟨a, xs.length, by simp, Hb.out, Hg.out, Nat.le_refl _, hl, H3.out⟩
end Go.Proofs.YtnlmdfbjmhcilaaDoor
/-
  append onto a row of the call's own, from any slice that reads.
-/
namespace Go.Proofs.YtnlmdfbjmhcilaaDoor
open Go.RowKit

section
variable {P : Program} (w : World)
theorem run_append_rd (base : Nat) (t ty e : TypeId) (i : TypeInfo) (z : Value) (bytes : Nat) (ht : P.underlying t = some (.slice e)) (hi : P.info? e = some i) (hz : i.zero = some z)
    (hsize : i.size = 1) (hby : i.bytes = bytes) (hzs : z.cells.size = 1)
    (v : Value) (n : Nat) (xs : List Value) (hown : w.ownsRow base e 1 v n xs)
    (vx : Value) (gx : Option Nat) (news : List Value) (hr : Rd w vx gx news) (h1 : ∀ u ∈ news, u.oneCell' = true)
    (h63 : n + news.length ≤ maxLen) (hbytes : (n + news.length) * bytes ≤ 140737488355328) (hbase : base ≤ w.heap.size) :
    ∃ v' w', (Builtin.append_ #[t, t] ty #[v, vx]).run P w = .ok v' w' ∧ w'.ownsRow base e 1 v' (n + news.length) (xs ++ news) ∧ w.grownBy w' v.ownBlock ∧ From v.ownBlock w.heap.size v'.ownBlock ∧ w.heap.size ≤ w'.heap.size := by
  rcases hr with ⟨rfl, _, rfl⟩ | ⟨a, cap, rfl, _, _, hl, hm, hc⟩
  · refine ⟨v, w, run_append_owned_none (P := P) (w := w) base t ty e i 1 ht hi v n xs hown, by simpa using hown, World.grownBy.refl w _, From.refl _ _, Nat.le_refl _⟩
  · obtain ⟨v', w', hrun, h2, h3, _, h5⟩ := run_append_own_at (P := P) w base t ty e i z 1 bytes ht hi hz hsize hby hzs (by decide) v n xs hown a news.length cap news (by simp)
      hc h1 h63 hbytes hbase
    exact ⟨v', w', hrun, h2, h3, fun b hb => h5.elim (fun e => .inl (by rw [← e, hb])) (fun e => .inr (by rw [hb] at e; injection e with e; omega)), h3.size⟩

theorem wp_append_rd {o : Oper} {a : Act} {K : Act → World → Prop} {Q : Exit → Act → World → Prop} (s x : Operand) (t : TypeId)
    (ho : o.op = .call { callee := .builtin .append, args := #[s, x], argTypes := #[t, t] })
    (base : Nat) (e : TypeId) (i : TypeInfo) (z : Value) (bytes : Nat) (ht : P.underlying t = some (.slice e)) (hi : P.info? e = some i) (hz : i.zero = some z)
    (hsize : i.size = 1) (hby : i.bytes = bytes) (hzs : z.cells.size = 1)
    (v : Value) (n : Nat) (xs : List Value) (hs : a.eval s = v) (hown : w.ownsRow base e 1 v n xs)
    (vx : Value) (gx : Option Nat) (news : List Value) (hx : a.eval x = vx) (hr : Rd w vx gx news) (h1 : ∀ u ∈ news, u.oneCell' = true)
    (h63 : n + news.length ≤ maxLen) (hbytes : (n + news.length) * bytes ≤ 140737488355328) (hbase : base ≤ w.heap.size)
    (h : ∀ v' w', w'.ownsRow base e 1 v' (n + news.length) (xs ++ news) → w.grownBy w' v.ownBlock → From v.ownBlock w.heap.size v'.ownBlock → K (a.put o.dst v') w') : o.wp P a w K Q := by
  obtain ⟨v', w', hrun, h2, h3, h4, _⟩ := run_append_rd (P := P) w base t o.type e i z bytes ht hi hz hsize hby hzs v n xs hown vx gx news hr h1 h63 hbytes hbase
  unfold Oper.wp execOp
  simp only [ho, resolve, invoke, builtin, Sem.run_bind, Sem.run_pure, Result.andThen_ok, List.map_toArray, List.map_cons, List.map_nil, hs, hx, hrun]
  exact h v' w' h2 h3 h4

theorem wpList_append_rd {ops : Array Oper} {rest : List Oper} {o : Oper} {a : Act} {Q : Exit → Act → World → Prop} (hgd : o.guard = none) (s x : Operand) (t : TypeId)
    (ho : o.op = .call { callee := .builtin .append, args := #[s, x], argTypes := #[t, t] })
    (base : Nat) (e : TypeId) (i : TypeInfo) (z : Value) (bytes : Nat) (ht : P.underlying t = some (.slice e)) (hi : P.info? e = some i) (hz : i.zero = some z)
    (hsize : i.size = 1) (hby : i.bytes = bytes) (hzs : z.cells.size = 1)
    (v : Value) (n : Nat) (xs : List Value) (hs : a.eval s = v) (hown : w.ownsRow base e 1 v n xs)
    (vx : Value) (gx : Option Nat) (news : List Value) (hx : a.eval x = vx) (hr : Rd w vx gx news) (h1 : ∀ u ∈ news, u.oneCell' = true)
    (h63 : n + news.length ≤ maxLen) (hbytes : (n + news.length) * bytes ≤ 140737488355328) (hbase : base ≤ w.heap.size)
    (h : ∀ v' w', w'.ownsRow base e 1 v' (n + news.length) (xs ++ news) → w.grownBy w' v.ownBlock → From v.ownBlock w.heap.size v'.ownBlock → wpList P ops Q rest (a.put o.dst v') w') : wpList P ops Q (o :: rest) a w :=
  wpList_plain hgd fun _ hK => wp_append_rd w s x t ho base e i z bytes ht hi hz hsize hby hzs v n xs hs hown vx gx news hx hr h1 h63 hbytes hbase fun v' w' h2 h3 h4 => hK _ _ (h v' w' h2 h3 h4)

theorem step_append_rd {ops : Array Oper} {o : Oper} {a : Act} {K : Act → World → Prop} {Q : Exit → Act → World → Prop} {E : Prop} (hgd : o.guard = none) (s x : Operand) (t : TypeId)
    (ho : o.op = .call { callee := .builtin .append, args := #[s, x], argTypes := #[t, t] })
    (base : Nat) (e : TypeId) (i : TypeInfo) (z : Value) (bytes : Nat) (ht : P.underlying t = some (.slice e)) (hi : P.info? e = some i) (hz : i.zero = some z)
    (hsize : i.size = 1) (hby : i.bytes = bytes) (hzs : z.cells.size = 1)
    (v : Value) (n : Nat) (xs : List Value) (hs : a.eval s = v) (hown : w.ownsRow base e 1 v n xs)
    (vx : Value) (gx : Option Nat) (news : List Value) (hx : a.eval x = vx) (hr : Rd w vx gx news) (h1 : ∀ u ∈ news, u.oneCell' = true)
    (h63 : n + news.length ≤ maxLen) (hbytes : (n + news.length) * bytes ≤ 140737488355328) (hbase : base ≤ w.heap.size)
    (h : ∀ v' w', w'.ownsRow base e 1 v' (n + news.length) (xs ++ news) → w.grownBy w' v.ownBlock → From v.ownBlock w.heap.size v'.ownBlock → K (a.put o.dst v') w') :
    if Region.wanted o (yielded ops a.tmps) = true then Oper.wp P o a w K Q else E := by
  have hw : Region.wanted o (yielded ops a.tmps) = true := by simp [Region.wanted, hgd]
  rw [if_pos hw]
  exact wp_append_rd w s x t ho base e i z bytes ht hi hz hsize hby hzs v n xs hs hown vx gx news hx hr h1 h63 hbytes hbase h
end

section
variable {w w1 : World} {v v' : Value} {S : Nat → Prop}
/-- what an append keeps -/
theorem Keeps.append {w0 : World} (h : Keeps S w0 w) (hg : w.grownBy w1 v.ownBlock) (hv : ∀ b, v.ownBlock = some b → b < w0.heap.size → S b) : Keeps S w0 w1 := h.grown hg hv
theorem keeps_append (hg : w.grownBy w1 v.ownBlock) : Keeps (fun b => v.ownBlock = some b) w w1 := (Keeps.refl _ w).grown hg (fun _ h _ => h)
end
end Go.Proofs.YtnlmdfbjmhcilaaDoor
/-
  append of bytes: onto a row of bytes of the call's own, from any slice that reads as bytes.
-/
namespace Go.Proofs.YtnlmdfbjmhcilaaDoor
open Go.RowKit

/-- The value owns a row that reads as the bytes `L`. -/
def OwnB (w : World) (v : Value) (L : List UInt8) : Prop := w.ownsRow 0 5 1 v L.length (L.map bv)
theorem OwnB.rd {w : World} {v : Value} {L : List UInt8} (h : OwnB w v L) : Rd w v v.ownBlock (L.map bv) := Rd.of_own h
theorem OwnB.nil (w : World) : OwnB w (.slice none 0 0) [] := World.ownsRow_nil _ _ _ _
theorem OwnB.empty (w : World) : OwnB (w.alloc (.cells #[] 5)) (.slice (some ⟨w.heap.size, 0, none⟩) 0 0) [] := World.ownsRow_made w #[] 0 (Nat.zero_le _) (Nat.zero_le _) rfl
theorem OwnB.keep {w w' : World} {v : Value} {L : List UInt8} {S : Nat → Prop} (h : OwnB w v L) (hk : Keeps S w w') (hs : ∀ b, v.ownBlock = some b → ¬ S b) : OwnB w' v L := own_keep h hk hs
theorem OwnB.lt {w : World} {v : Value} {L : List UInt8} (h : OwnB w v L) : Under w.heap.size v.ownBlock := fun b hb => (World.ownsRow.lt h b hb).2
/-- its form, for a store -/
theorem OwnB.form {w : World} {v : Value} {L : List UInt8} (h : OwnB w v L) : v = .slice none 0 0 ∨ ∃ g cap, v = .slice (some ⟨g, 0, none⟩) L.length cap := by
  rcases h.2 with ⟨h, _⟩ | ⟨g, cap, cur, h, _⟩
  · exact .inl h
  · exact .inr ⟨g, cap, h⟩
theorem OwnB.form' {w : World} {v : Value} {L : List UInt8} (h : OwnB w v L) : ∃ A c, v = .slice A L.length c ∧ L.length ≤ c ∧ c ≤ maxLen := by
  have := (OwnB.rd h).form
  rwa [List.length_map] at this
theorem bv_map_inj {L M : List UInt8} (h : L.map bv = M.map bv) : L = M := by
  induction L generalizing M with
  | nil => cases M with
    | nil => rfl
    | cons b M => simp at h
  | cons a L ih =>
    cases M with
    | nil => simp at h
    | cons b M =>
      simp only [List.map_cons, List.cons.injEq] at h
      obtain ⟨h1, h2⟩ := h
      rw [ih h2]
      have : (a.toNat : Int) = b.toNat := by unfold bv at h1; injection h1
      have hab : a = b := UInt8.toNat_inj.1 (by omega)
      rw [hab]

section
variable {ops : Array Oper} {rest : List Oper} {o : Oper} {a : Act} {Q : Exit → Act → World → Prop} {w : World}
theorem own_bytes_app {w' : World} {v' : Value} {L M : List UInt8} (h : w'.ownsRow 0 5 1 v' (L.length + (M.map bv).length) (L.map bv ++ M.map bv)) : OwnB w' v' (L ++ M) := by
  unfold OwnB
  simpa using h

theorem wp_append_bytes {K : Act → World → Prop} (s x : Operand) (ho : o.op = .call { callee := .builtin .append, args := #[s, x], argTypes := #[25, 25] })
    (v : Value) (L : List UInt8) (hs : a.eval s = v) (hown : OwnB w v L) (vx : Value) (gx : Option Nat) (M : List UInt8) (hx : a.eval x = vx) (hr : Rd w vx gx (M.map bv)) (hb : L.length + M.length ≤ 1099511627776)
    (h : ∀ v' w', OwnB w' v' (L ++ M) → Keeps (fun b => v.ownBlock = some b) w w' → From v.ownBlock w.heap.size v'.ownBlock → K (a.put o.dst v') w') : o.wp Tryd.prog a w K Q := by
  obtain ⟨i0, hi, hz0, hz1, hz2⟩ := info_parts infoU8
  exact wp_append_rd w s x _ ho 0 5 i0 _ 1 Tryd.underlying25 hi hz0 hz1 hz2 rfl v L.length (L.map bv) hs hown vx gx (M.map bv) hx hr (bv_one M) (by simp [maxLen]; omega) (by simp; omega) (Nat.zero_le _)
    fun v' w' h1 h2 h3 => h v' w' (own_bytes_app h1) (keeps_append h2) h3
theorem wpList_append_bytes (hgd : o.guard = none) (s x : Operand) (ho : o.op = .call { callee := .builtin .append, args := #[s, x], argTypes := #[25, 25] })
    (v : Value) (L : List UInt8) (hs : a.eval s = v) (hown : OwnB w v L) (vx : Value) (gx : Option Nat) (M : List UInt8) (hx : a.eval x = vx) (hr : Rd w vx gx (M.map bv)) (hb : L.length + M.length ≤ 1099511627776)
    (h : ∀ v' w', OwnB w' v' (L ++ M) → Keeps (fun b => v.ownBlock = some b) w w' → From v.ownBlock w.heap.size v'.ownBlock → wpList Tryd.prog ops Q rest (a.put o.dst v') w') : wpList Tryd.prog ops Q (o :: rest) a w :=
  wpList_plain hgd fun _ hK => wp_append_bytes s x ho v L hs hown vx gx M hx hr hb fun v' w' h2 h3 h4 => hK _ _ (h v' w' h2 h3 h4)
theorem step_append_bytes {K : Act → World → Prop} {E : Prop} (hgd : o.guard = none) (s x : Operand) (ho : o.op = .call { callee := .builtin .append, args := #[s, x], argTypes := #[25, 25] })
    (v : Value) (L : List UInt8) (hs : a.eval s = v) (hown : OwnB w v L) (vx : Value) (gx : Option Nat) (M : List UInt8) (hx : a.eval x = vx) (hr : Rd w vx gx (M.map bv)) (hb : L.length + M.length ≤ 1099511627776)
    (h : ∀ v' w', OwnB w' v' (L ++ M) → Keeps (fun b => v.ownBlock = some b) w w' → From v.ownBlock w.heap.size v'.ownBlock → K (a.put o.dst v') w') :
    if Region.wanted o (yielded ops a.tmps) = true then Oper.wp Tryd.prog o a w K Q else E := by
  have hw : Region.wanted o (yielded ops a.tmps) = true := by simp [Region.wanted, hgd]
  rw [if_pos hw]
  exact wp_append_bytes s x ho v L hs hown vx gx M hx hr hb h
end
end Go.Proofs.YtnlmdfbjmhcilaaDoor
/-
  append of a string's bytes: onto a row of bytes of the call's own.
-/
namespace Go.Proofs.YtnlmdfbjmhcilaaDoor
open Go.RowKit

theorem OwnB.base {w : World} {v : Value} {L : List UInt8} {B : Nat} (h : OwnB w v L) (ha : Above B v.ownBlock) : w.ownsRow B 5 1 v L.length (L.map bv) := by
  refine ⟨h.1, h.2.imp (fun h => h) ?_⟩
  rintro ⟨g, cap, cur, rfl, -, hr⟩
  exact ⟨g, cap, cur, rfl, ha g rfl, hr⟩
theorem OwnB.unbase {w : World} {v : Value} {L : List UInt8} {B n : Nat} (h : w.ownsRow B 5 1 v n (L.map bv)) (hn : n = L.length) : OwnB w v L ∧ Above B v.ownBlock := by
  subst hn
  refine ⟨⟨h.1, h.2.imp (fun h => h) ?_⟩, ?_⟩
  · rintro ⟨g, cap, cur, rfl, -, hr⟩
    exact ⟨g, cap, cur, rfl, Nat.zero_le _, hr⟩
  · rcases h.2 with ⟨rfl, -⟩ | ⟨g, cap, cur, rfl, hb, -⟩
    · exact fun b hb => by cases hb
    · intro b hb'
      have : g = b := by simpa [Value.ownBlock] using hb'
      subst this
      exact hb
theorem strCells_of (M : List UInt8) : Lib.strCells (strOf M) = M.map bv := by simp [Lib.strCells, strOf, bv]
theorem strOf_size' (M : List UInt8) : (strOf M).size = M.length := by simp [strOf, ByteArray.size]
section
variable {ops : Array Oper} {rest : List Oper} {o : Oper} {a : Act} {Q : Exit → Act → World → Prop} {w : World}
theorem wpList_append_str (hgd : o.guard = none) (s x : Operand) (ho : o.op = .call { callee := .builtin .append, args := #[s, x], argTypes := #[25, 9] })
    (v : Value) (L : List UInt8) (hs : a.eval s = v) (hown : OwnB w v L) (B : Nat) (ha : Above B v.ownBlock) (hB : B ≤ w.heap.size) (M : List UInt8) (hx : a.eval x = .string (strOf M)) (hb : L.length + M.length ≤ 1099511627776)
    (h : ∀ v' w', OwnB w' v' (L ++ M) → Above B v'.ownBlock → Keeps (fun b => v.ownBlock = some b) w w' → wpList Tryd.prog ops Q rest (a.put o.dst v') w') : wpList Tryd.prog ops Q (o :: rest) a w := by
  obtain ⟨i0, hi, hz0, hz1, hz2⟩ := info_parts infoU8
  have hM := strOf_size' M
  refine Lib.wpList_append_own_string w hgd s x _ _ ho B 5 i0 Tryd.underlying25 Tryd.underlying9 hi hz0 hz1 hz2 v L.length (L.map bv) hs (hown.base ha) (strOf M) hx (by simp [maxLen, hM]; omega) (by rw [hM]; omega) hB fun v' w' h1 h2 _ => ?_
  rw [strCells_of, ← List.map_append, hM] at h1
  obtain ⟨k1, k2⟩ := OwnB.unbase h1 (by simp)
  exact h v' w' k1 k2 (keeps_append h2)
end
end Go.Proofs.YtnlmdfbjmhcilaaDoor
/-
  user: Table.Text.
-/
namespace Go.Proofs.YtnlmdfbjmhcilaaDoor
open Go.RowKit Go.Proofs Go.Shelf
attribute [local go_sem] strOf_size strOf_get strOf_toList

theorem isb_keep {T e : TypeId} {B b : Nat} {bs : List Value} {w w' : World} (h : Lib.IsBuilder T e B b bs w) (hk : Keeps nowhere w w') : Lib.IsBuilder T e B b bs w' := by
  have go : ∀ p, Lib.BuilderAt T e B b p bs w → Lib.BuilderAt T e B b p bs w' := by
    rintro p ⟨h1, v, h2, h3, h4⟩
    exact ⟨h1, v, (hk.block b (Array.getElem?_eq_some_iff.1 h2).1 (fun h => h)).trans h2, own_keep h3 hk (fun _ _ h => h), h4⟩
  exact h.elim (fun h => .inl (go _ h)) (fun h => .inr (go _ h))
theorem sizeBld : (Tryd.prog.info? 98).map (·.size) = some 2 := by kernel_rfl
/-- a builder in a block of the call's own -/
def SBd (w : World) (b : Nat) (L : List UInt8) : Prop := ∃ p v, (p = .pointer none ∨ p = .pointer (some ⟨b, 0, none⟩)) ∧ Blk w b 98 #[p, v] ∧ OwnB w v L ∧ Above b v.ownBlock
set_option maxHeartbeats 1000000 in
set_option maxRecDepth 100000 in
theorem bld_check_used (b : Nat) (w : World) (h0 : w.cell? ⟨b, 0, none⟩ = some (.pointer (some ⟨b, 0, none⟩))) :
    Calls Tryd.prog 79 #[.pointer (some ⟨b, 0, none⟩)] w fun e w' => e = .returned (.tuple #[]) ∧ w' = w := by
  obtain ⟨j, hj, hjs⟩ := Option.map_eq_some_iff.1 sizeBld
  go_enter Tryd.func79, Tryd.ntmps79
  go_wp2
  rw [Lib.run_neq_ptr_same w _ Tryd.underlying96 hj]
  go_wp2
  go_end0
  exact ⟨rfl, rfl⟩
theorem shape_blk {w : World} {b : Nat} {T : TypeId} {cs : Array Value} (h : Blk w b T cs) : w.shape? b = some (T, cs.size) := by
  unfold Blk at h
  unfold World.shape?
  rw [h]
set_option maxHeartbeats 1000000 in
set_option maxRecDepth 100000 in
theorem bld_check_fresh (b : Nat) (w : World) (v : Value) (hb : Blk w b 98 #[.pointer none, v]) :
    Calls Tryd.prog 79 #[.pointer (some ⟨b, 0, none⟩)] w fun e w' => e = .returned (.tuple #[]) ∧ w' = w.setCell ⟨b, 0, none⟩ (.pointer (some ⟨b, 0, none⟩)) := by
  obtain ⟨j, hj, hjs⟩ := Option.map_eq_some_iff.1 sizeBld
  have h0 := hb.cell 0
  have hfz := hb.frozen 0
  simp at h0
  have hsh : w.shape? b = some (98, 2) := shape_blk hb
  go_enter Tryd.func79, Tryd.ntmps79
  go_wp2
  rw [Lib.run_to_unsafe w ⟨b, 0, none⟩ Tryd.underlying96 Tryd.underlying147 hj (by rw [hjs]; decide) hsh (Nat.zero_lt_succ 1)]
  simp only [Result.andThen]
  rw [Oper.upon_value]
  go_wp2
  rw [run_callFunc_extern Tryd.func103 (by kernel_rfl) (by kernel_rfl) (by kernel_rfl) (e := Extern.AbiNoEscape.same) (by kernel_rfl)]
  rw [Lib.run_noEscape]
  simp only [Result.andThen]
  rw [Oper.upon_value]
  go_wp2
  rw [Lib.run_from_unsafe w ⟨b, 0, none⟩ Tryd.underlying147 Tryd.underlying96 hj hsh (by kernel_rfl)]
  simp only [Result.andThen]
  rw [Oper.upon_value]
  go_wp2
  go_end0
  exact ⟨rfl, rfl⟩
def Up (b : Nat) : Nat → Prop := fun k => b ≤ k
theorem sbd_new (w : World) : SBd (w.alloc (.cells #[.pointer none, .slice none 0 0] 98)) w.heap.size [] := ⟨_, _, .inl rfl, Blk.new _ _ _, ⟨by simp, .inl ⟨rfl, rfl⟩⟩, Above.none _⟩
def WriteP (w : World) (b : Nat) (L M : List UInt8) : Ending → World → Prop := fun e w' => (∃ n, e = .returned (.tuple #[.int .i64 n, .nilIface])) ∧ SBd w' b (L ++ M) ∧ Keeps (Up b) w w'
theorem sbd_used {w : World} {b : Nat} {L : List UInt8} (h : SBd w b L) : ∃ w1, Calls Tryd.prog 79 #[.pointer (some ⟨b, 0, none⟩)] w (fun e w' => e = .returned (.tuple #[]) ∧ w' = w1) ∧ Keeps (Up b) w w1 ∧ ∃ v, Blk w1 b 98 #[.pointer (some ⟨b, 0, none⟩), v] ∧ OwnB w1 v L ∧ Above b v.ownBlock := by
  obtain ⟨p, v, hp, hb, ho, ha⟩ := h
  rcases hp with rfl | rfl
  · have hk : Keeps (only b) w (w.setCell ⟨b, 0, none⟩ (.pointer (some ⟨b, 0, none⟩))) := (Keeps.refl (only b) w).setCell (p := ⟨b, 0, none⟩) (fun _ => rfl) _
    have hb1 := hb.set_ 0 (.pointer (some ⟨b, 0, none⟩))
    simp at hb1
    refine ⟨_, bld_check_fresh b w v hb, hk.mono (fun k _ e => by show b ≤ k; rw [e]; exact Nat.le_refl _), v, hb1, own_keep ho hk (fun k e e2 => ?_), ha⟩
    rcases ho.2 with ⟨rfl, -⟩ | ⟨g, cap, cur, rfl, -, hg, -⟩
    · simp [Value.ownBlock] at e
    · have e3 : g = k := by simpa [Value.ownBlock] using e
      have e4 : k = b := by first | exact e2 | exact e2.symm
      subst e4
      subst e3
      exact absurd rfl (hb.ne_ hg (by decide))
  · have h0 := hb.cell 0
    simp at h0
    exact ⟨w, bld_check_used b w h0, Keeps.refl _ _, v, hb, ho, ha⟩
set_option maxHeartbeats 1000000 in
theorem bld_write (b : Nat) (L M : List UInt8) (w : World) (h : SBd w b L) (hl : L.length + M.length ≤ 1099511627776) :
    Calls Tryd.prog 51 #[.pointer (some ⟨b, 0, none⟩), .string (strOf M)] w (WriteP w b L M) := by
  obtain ⟨w1, hc, hk1, v, hb1, ho1, ha1⟩ := sbd_used h
  have hbs : b ≤ w1.heap.size := Nat.le_of_lt hb1.lt
  have c1 := hb1.cell 1
  simp at c1
  have Hc := Lib.hid hc
  have Hk1 := Lib.hid hk1
  have Hb1 := Lib.hid hb1
  have Ho1 := Lib.hid ho1
  have Ha1 := Lib.hid ha1
  have H := Lib.hid h
  clear hc hk1 hb1 ho1 ha1 h
  go_enter Tryd.func51, Tryd.ntmps51
  go_wp2_with fail
  refine Hc.out.mono ?_
  rintro e w2 ⟨rfl, rfl⟩
  go_wp2_with (at_builtin; go_must (refine wpList_append_str rfl (.tmp 12) (.tmp 13) rfl v L rfl Ho1.out b Ha1.out hbs M rfl hl ?_))
  intro v' w' ho' ha' hk'
  have hbv : v.ownBlock ≠ some b := own_blk_ne Ho1.out Hb1.out (by decide)
  have hb' := Hb1.out.keep hk' (fun e => hbv e)
  have d1 := hb'.cell 1
  have f1 := hb'.frozen 1
  simp at d1
  have hb2 := hb'.set_ 1 v'
  simp at hb2
  have hbv' : v'.ownBlock ≠ some b := own_blk_ne ho' hb' (by decide)
  have hk2 : Keeps (only b) w' (w'.setCell ⟨b, 1, none⟩ v') := (Keeps.refl (only b) w').setCell (p := ⟨b, 1, none⟩) (fun _ => rfl) v'
  have ho2 := own_keep ho' hk2 (fun k e e2 => hbv' (by rw [e]; exact congrArg some e2))
  have hfin : SBd (w'.setCell ⟨b, 1, none⟩ v') b (L ++ M) := ⟨_, v', .inr rfl, hb2, ho2, ha'⟩
  have hkf : Keeps (Up b) w (w'.setCell ⟨b, 1, none⟩ v') := (Hk1.out.trans hk' (fun k hk e => Ha1.out k e)).trans hk2 (fun k hk e => by show b ≤ k; unfold only at e; omega)
  obtain ⟨A', c', hv', -⟩ := ho'.form'
  obtain ⟨N', hN'⟩ : ∃ N, N = (L ++ M).length := ⟨_, rfl⟩
  rw [← hN'] at hv'
  clear ho' ha' hk' hb' hb2 hbv' hk2 ho2
  subst hv'
  have Hfin := Lib.hid hfin
  have Hkf := Lib.hid hkf
  have HN' := Lib.hid hN'
  clear hfin hkf hN'
  go_wp2_with fail
  go_ret2
  exact ⟨⟨_, rfl⟩, Hfin.out, Hkf.out⟩
theorem SBd.keep {S : Nat → Prop} {w w' : World} {b : Nat} {L : List UInt8} (h : SBd w b L) (hk : Keeps S w w') (hs : ∀ k, b ≤ k → ¬ S k) : SBd w' b L := by
  obtain ⟨p, v, h1, h2, h3, h4⟩ := h
  exact ⟨p, v, h1, h2.keep hk (hs b (Nat.le_refl _)), own_keep h3 hk (fun k e => hs k (h4 k e)), h4⟩
theorem SBd.lt {w : World} {b : Nat} {L : List UInt8} (h : SBd w b L) : b < w.heap.size := by
  obtain ⟨p, v, h1, h2, h3, h4⟩ := h
  exact h2.lt
end Go.Proofs.YtnlmdfbjmhcilaaDoor
/-
  law 15: fields.
-/
namespace Go.Proofs.YtnlmdfbjmhcilaaDoor
open Go.RowKit Go.Proofs Go.Shelf
attribute [local go_sem] strOf_size strOf_get strOf_toList

theorem strOf_append (L M : List UInt8) : strOf L ++ strOf M = strOf (L ++ M) := by
  unfold strOf
  apply ByteArray.ext
  simp
theorem strOf_extract (s : List UInt8) (i j : Nat) : (strOf s).extract i j = strOf ((s.drop i).take (j - i)) := by
  unfold strOf
  apply ByteArray.ext
  simp [List.extract_eq_take_drop]
theorem splitL_snoc_eq (c : UInt8) : ∀ p : List UInt8, splitL c (p ++ [c]) = splitL c p ++ [[]]
  | [] => by simp [splitL]
  | x :: l => by
    have ih := splitL_snoc_eq c l
    rw [List.cons_append, splitL, splitL, ih]
    by_cases h : x = c
    · simp [h]
    · rw [if_neg h, if_neg h]
      cases hl : splitL c l with
      | nil => exact absurd hl (splitL_ne c l)
      | cons a t => rfl
theorem splitL_snoc_ne (c x : UInt8) (hx : x ≠ c) : ∀ p : List UInt8, splitL c (p ++ [x]) = (splitL c p).set ((splitL c p).length - 1) (((splitL c p)[(splitL c p).length - 1]?).getD [] ++ [x])
  | [] => by simp [splitL, hx]
  | y :: l => by
    have ih := splitL_snoc_ne c x hx l
    rw [List.cons_append, splitL, splitL, ih]
    cases hl : splitL c l with
    | nil => exact absurd hl (splitL_ne c l)
    | cons a t =>
      by_cases h : y = c
      · rw [if_pos h, if_pos h]
        simp
      · rw [if_neg h, if_neg h]
        dsimp only
        cases t with
        | nil => simp
        | cons b t => simp
theorem splitL_pos (c : UInt8) (s : List UInt8) : 0 < (splitL c s).length := List.length_pos_iff.2 (splitL_ne c s)
def FieldsP (s : List UInt8) (w : World) : Ending → World → Prop := fun e w' => ∃ v' b, e = .returned (.tuple #[v', .bool b]) ∧ b = !(splitL 32 s).contains [] ∧ recStr.Row w' v' (splitL 32 s) ∧ Above w.heap.size v'.ownBlock ∧ Keeps nowhere w w'
set_option maxRecDepth 20000 in
set_option maxHeartbeats 4000000 in
theorem fields_any (s : List UInt8) (hl : s.length ≤ 1000000) (w : World) : Calls Tryd.prog 49 #[.string (strOf s)] w (FieldsP s w) := by
  obtain ⟨n, hn⟩ : ∃ n, n = s.length := ⟨_, rfl⟩
  rw [← hn] at hl
  have hr0 : recStr.Row (w.alloc (.cells #[.string ⟨#[]⟩] 9)) (.slice (some ⟨w.heap.size, 0, none⟩) 1 1) (splitL 32 (s.take 0)) :=
    RecT.Row.of_blk (R := recStr) (l := [[]]) (rest := []) (Blk.new w _ _) rfl (by decide)
  have hk0 : Keeps nowhere w (w.alloc (.cells #[.string ⟨#[]⟩] 9)) := (Keeps.refl nowhere w).alloc _
  have hnn : (strOf s).size = n := by rw [strOf_size, hn]
  have Hn := Lib.hid hn
  have Hr0 := Lib.hid hr0
  have Hk0 := Lib.hid hk0
  clear hn hr0 hk0
  go_enter Tryd.func49, Tryd.ntmps49
  go_wp2_with fail
  go_loopw [4, 5] (fun ov iv wr => ∃ i : Nat, iv = .int .i64 i ∧ i ≤ n ∧ recStr.Row wr ov (splitL 32 (s.take i)) ∧ Above w.heap.size ov.ownBlock ∧ Keeps nowhere w wr) (fun _ iv _ => n - (intOf iv).toNat)
  case atStart => exact ⟨0, rfl, Nat.zero_le _, Hr0.out, (fun b hb => by simp [Value.ownBlock] at hb; omega), Hk0.out⟩
  case round =>
    obtain ⟨i, rfl, hi, hr, ha, hk⟩ := hrel
    by_cases hlt : i < n
    · have hltI : (i : Int) < n := by omega
      have hi0 : (0 : Int) ≤ (i : Int) := by omega
      have hi1 : IntKind.i64.wrap ((i : Int) + 1) = i + 1 := IntWalk.i64_in _ (by omega)
      obtain ⟨c, hc⟩ : ∃ c, s[i]? = some c := ⟨_, List.getElem?_eq_getElem (by rw [← Hn.out]; exact hlt)⟩
      have hbc : byteN s i = c.toNat := by unfold byteN; rw [hc]; rfl
      have htk : s.take (i + 1) = s.take i ++ [c] := by
        obtain ⟨hh, rfl⟩ := List.getElem?_eq_some_iff.1 hc
        rw [List.take_succ_eq_append_getElem hh]
      by_cases hsp : c = 32
      · have hb32 : byteN s i = 32 := by rw [hbc, hsp]; rfl
        have hnew : splitL 32 (s.take (i + 1)) = splitL 32 (s.take i) ++ [[]] := by rw [htk, hsp, splitL_snoc_eq]
        have hka : Keeps nowhere wr (wr.alloc (.cells #[.string ⟨#[]⟩] 9)) := (Keeps.refl nowhere wr).alloc _
        have hrow := hr.same hka
        have hrd : recStr.Rd (wr.alloc (.cells #[.string ⟨#[]⟩] 9)) (.slice (some ⟨wr.heap.size, 0, none⟩) 1 1) (some wr.heap.size) [[]] := RecT.Rd.one recStr wr []
        have hlb : (splitL 32 (s.take i)).length + ([[]] : List (List UInt8)).length ≤ 100000000 := by
          rw [splitL_len]; have := List.count_le_length (a := (32 : UInt8)) (l := s.take i); simp at this ⊢; omega
        obtain ⟨A, cp, hov, -⟩ := hrow.form
        subst hov
        obtain ⟨L, hL⟩ : ∃ L, L = (splitL 32 (s.take i)).length := ⟨_, rfl⟩
        rw [← hL] at hrow hr ha ⊢
        clear hr
        have Ha := Lib.hid ha
        have Hk := Lib.hid hk
        have Hc := Lib.hid hc
        have Hbc := Lib.hid hbc
        have Htk := Lib.hid htk
        have Hsp := Lib.hid hsp
        have Hnew := Lib.hid hnew
        have Hka := Lib.hid hka
        have Hrow := Lib.hid hrow
        have Hrd := Lib.hid hrd
        have Hlb := Lib.hid hlb
        have HL := Lib.hid hL
        clear ha hk hc hbc htk hsp hnew hka hrow hrd hlb hL
        go_wp2_with (at_builtin; go_must (refine RecT.wpList_append (R := recStr) Tryd.underlying47 infoStr rfl (by decide) rfl (.tmp 18) (.tmp 19) rfl _ _ rfl Hrow.out _ _ [[]] rfl Hrd.out Hlb.out ?_))
        intro v' w' hrow' hk' hf
        have hk2 : Keeps nowhere w w' := (Hk.out.more Hka.out).trans hk' (fun b hb e => by have := Ha.out b e; omega)
        have ha2 : Above w.heap.size v'.ownBlock := fun b hb => by
          have h1 := (Hk.out.more Hka.out).size
          rcases hf b hb with h | h
          · exact Ha.out b h
          · simp at h h1; omega
        rw [← Hnew.out] at hrow'
        clear hk' hf
        have Hrow' := Lib.hid hrow'
        have Hk2 := Lib.hid hk2
        have Ha2 := Lib.hid ha2
        clear hrow' hk2 ha2
        go_wp2_with fail
        go_roundw
        case rel => exact ⟨i + 1, by simp, by omega, Hrow'.out, Ha2.out, Hk2.out⟩
        case measure => simp [intOf]; omega
      · have hb32 : ((byteN s i : Int) == 32) = false := by
          rw [hbc]; simp; intro h; apply hsp; exact UInt8.toNat_inj.1 (by show c.toNat = 32; omega)
        have hnew := splitL_snoc_ne 32 c hsp (s.take i)
        rw [← htk] at hnew
        obtain ⟨A, cp, hov, -, -, hcp⟩ := hr.form
        subst hov
        have hpos := splitL_pos 32 (s.take i)
        obtain ⟨j, hj⟩ : ∃ j, j + 1 = (splitL 32 (s.take i)).length := ⟨(splitL 32 (s.take i)).length - 1, by omega⟩
        rw [show (splitL 32 (s.take i)).length - 1 = j by omega] at hnew
        obtain ⟨x, hx⟩ : ∃ x, (splitL 32 (s.take i))[j]? = some x := ⟨_, List.getElem?_eq_getElem (by omega)⟩
        rw [hx] at hnew
        have hjn : j < 1000001 := by rw [splitL_len] at hj; have := List.count_le_length (a := (32 : UInt8)) (l := s.take i); simp at this; omega
        obtain ⟨b, cap, rest, hov, hblk⟩ := (hr.blk).resolve_left (fun h => by rw [h.2] at hpos; cases hpos)
        injection hov with hA hN hC
        subst hA hC
        obtain ⟨m, hm⟩ : ∃ m, m = (splitL 32 (s.take i)).length := ⟨_, rfl⟩
        rw [← hm] at hr ha hj hpos ⊢
        have hcell : wr.cell? ⟨b, j, none⟩ = some (.string (strOf x)) := by
          have := atSt (hr.at_ hx)
          rwa [show j * recStr.n = j from Nat.mul_one j] at this
        obtain ⟨s1, s2, s3, s4⟩ := setSt hr hm (i := j) (by omega) (x ++ [c])
        have hmj : IntKind.i64.wrap ((m : Int) - 1) = j := by rw [IntWalk.i64_in _ (by omega)]; omega
        have hj0 : (0 : Int) ≤ (j : Int) := by omega
        have hjm : (j : Int) < m := by omega
        have hle : (i : Int) ≤ i + 1 := by omega
        have hle2 : (i : Int) + 1 ≤ n := by omega
        have hex : (strOf s).extract i (i + 1) = strOf [c] := by
          rw [strOf_extract, Nat.add_sub_cancel_left]
          obtain ⟨hh, rfl⟩ := List.getElem?_eq_some_iff.1 hc
          rw [List.drop_eq_getElem_cons hh]; rfl
        have hxl : x.length ≤ 1000000 := by
          have h1 := splitL_word 32 _ x (List.mem_of_getElem? hx)
          simp at h1; omega
        have hadd : ∀ w', (Op.stringOp .add (strOf x) (strOf [c])).run Tryd.prog w' = .ok (.string (strOf (x ++ [c]))) w' := fun w' => by
          rw [run_string_add_sum w' _ _ (by rw [strOf_size, strOf_size]; simp; omega), strOf_append]
        have hk2 : Keeps nowhere w (wr.setCell ⟨b, j, none⟩ (.string (strOf (x ++ [c])))) := hk.trans s4 (fun k hb e => by have := ha b rfl; unfold only at e; omega)
        have hnew2 := s3
        rw [show (splitL 32 (s.take i)).set j (x ++ [c]) = splitL 32 (s.take (i + 1)) from hnew.symm] at hnew2
        have hmm : m = (splitL 32 (s.take (i + 1))).length := by rw [hnew]; simp [hm]
        have q9 : ∀ w', Keeps nowhere wr.drew w' → w'.cell? ⟨b, j, none⟩ = some (.string (strOf x)) := fun w' e => (e.cell (p := ⟨b, j, none⟩) (by simpa using hblk.1.lt) (fun h => h)).trans (by simpa using hcell)
        clear s3 hr
        have Ha := Lib.hid ha
        have Hk := Lib.hid hk
        have Hc := Lib.hid hc
        have Hbc := Lib.hid hbc
        have Htk := Lib.hid htk
        have Hsp := Lib.hid hsp
        have Hnew := Lib.hid hnew
        have Hm := Lib.hid hm
        have Hx := Lib.hid hx
        have Hblk := Lib.hid hblk
        have S4 := Lib.hid s4
        have Hk2 := Lib.hid hk2
        have Hnew2 := Lib.hid hnew2
        have Hmm := Lib.hid hmm
        clear ha hk hc hbc htk hsp hnew hm hx hblk s4 hk2 hnew2 hmm
        go_wp2_with fail
        refine wp_region_script [0, 1, 2, 3, 4, 5, 6, 7, 8, 9, 10, 11, 12, 13, 14, 15, 16] [9] [.ps [0, 1, 2, 3], .ps [4, 5, 6, 7, 8], .fs [9], .ps [10, 11, 12, 13], .ps [14, 15, 16], .es [17] false] (Keeps nowhere wr.drew) rfl (by kernel_rfl) ?_
        refine wpS_ps rfl fun K hK => ?_
        simp only [List.map_cons, List.map_nil, Option.getD_some, List.getElem?_toArray, List.getElem?_cons_zero, List.getElem?_cons_succ]
        iterate 4 (first | (apply quietO_cons _ rfl; (intro w' _; go_simp; rfl)) | apply quietO_skip rfl)
        refine hK _ ?_
        clear hK K
        simp only [Act.put, List.setIfInBounds_toArray, List.set_cons_zero, List.set_cons_succ]
        refine wpS_ps rfl fun K hK => ?_
        simp only [List.map_cons, List.map_nil, Option.getD_some, List.getElem?_toArray, List.getElem?_cons_zero, List.getElem?_cons_succ]
        iterate 5 (first | (apply quietO_cons _ rfl; (intro w' _; go_simp; rfl)) | apply quietO_skip rfl)
        refine hK _ ?_
        clear hK K
        simp only [Act.put, List.setIfInBounds_toArray, List.set_cons_zero, List.set_cons_succ]
        refine wpS_fs rfl (Keeps.refl _ _) fun K hK => ?_
        simp only [List.map_cons, List.map_nil, Option.getD_some, List.getElem?_toArray, List.getElem?_cons_zero, List.getElem?_cons_succ]
        iterate 1 (first | (apply quietO_cons _ rfl; (intro w' hs; have c_0 := q9 w' hs; go_simp; rfl)) | apply quietO_skip rfl)
        refine hK _ ?_
        clear hK K
        simp only [Act.put, List.setIfInBounds_toArray, List.set_cons_zero, List.set_cons_succ]
        clear q9
        refine wpS_ps rfl fun K hK => ?_
        simp only [List.map_cons, List.map_nil, Option.getD_some, List.getElem?_toArray, List.getElem?_cons_zero, List.getElem?_cons_succ]
        iterate 4 (first | (apply quietO_cons _ rfl; (intro w' _; go_simp; rfl)) | apply quietO_skip rfl)
        refine hK _ ?_
        clear hK K
        simp only [Act.put, List.setIfInBounds_toArray, List.set_cons_zero, List.set_cons_succ]
        refine wpS_ps rfl fun K hK => ?_
        simp only [List.map_cons, List.map_nil, Option.getD_some, List.getElem?_toArray, List.getElem?_cons_zero, List.getElem?_cons_succ]
        iterate 3 (first | (apply quietO_cons _ rfl; (intro w' _; go_simp; rfl)) | apply quietO_skip rfl)
        refine hK _ ?_
        clear hK K
        simp only [Act.put, List.setIfInBounds_toArray, List.set_cons_zero, List.set_cons_succ]
        refine wpS_es rfl fun K hK => ?_
        have HK := Lib.hid hK
        clear hK
        simp only [List.map_cons, List.map_nil, Option.getD_some, List.getElem?_toArray, List.getElem?_cons_zero, List.getElem?_cons_succ]
        go_wp2_with fail
        refine HK.out _ _ (fun h => by cases h) ?_
        clear HK K
        refine wpS_nil ?_
        go_wp2_with fail
        go_roundw
        case rel => exact ⟨i + 1, by simp, by omega, Hnew2.out.same ((Keeps.refl nowhere _).drew), Ha.out, Hk2.out.drew⟩
        case measure => simp [intOf]; omega
    · obtain rfl : i = n := by omega
      have hiI : ¬ (i : Int) < i := by omega
      have htk : s.take i = s := by rw [Hn.out]; exact List.take_length
      rw [htk] at hr
      obtain ⟨A, cp, hov, -⟩ := hr.form
      subst hov
      obtain ⟨l, hll⟩ : ∃ l, l = splitL 32 s := ⟨_, rfl⟩
      obtain ⟨m, hm⟩ : ∃ m, m = l.length := ⟨_, rfl⟩
      rw [← hll, ← hm] at hr ha ⊢
      have hml : m < 9223372036854775807 := by rw [hm, hll, splitL_len]; have := List.count_le_length (a := (32 : UInt8)) (l := s); have := Hn.out; omega
      have hfin : ∀ (b : Bool) (W : World), b = (!l.contains []) → Keeps nowhere wr W → FieldsP s w (.returned (.tuple #[.slice A m cp, .bool b])) W := fun b W hb hW => ⟨_, b, rfl, by rw [hb, hll], by rw [← hll]; exact hr.same hW, ha, hk.more hW⟩
      clear ha hk htk
      have Hr := Lib.hid hr
      have Hll := Lib.hid hll
      have Hm := Lib.hid hm
      have Hfin := Lib.hid hfin
      clear hr hll hm hfin
      go_wp2_with fail
      go_loopw [6] (fun jv wz => ∃ j : Nat, jv = .int .i64 j ∧ j ≤ m ∧ (∀ k x, k < j → l[k]? = some x → x ≠ []) ∧ Keeps nowhere wr wz) (fun jv _ => m - (intOf jv).toNat)
      case atStart => exact ⟨0, rfl, Nat.zero_le _, fun k x h => by omega, Keeps.refl _ _⟩
      case round =>
        rename_i W0
        obtain ⟨j, rfl, hj, hno, hk2⟩ := hrel
        by_cases hlt : j < m
        · have hltI : (j : Int) < m := by omega
          have hj0 : (0 : Int) ≤ (j : Int) := by omega
          have hj1 : IntKind.i64.wrap ((j : Int) + 1) = j + 1 := IntWalk.i64_in _ (by omega)
          obtain ⟨x, hx⟩ : ∃ x, l[j]? = some x := ⟨_, List.getElem?_eq_getElem (by rw [← Hm.out]; exact hlt)⟩
          obtain ⟨b, o, rfl, hcell⟩ := rdSt_cell (Hr.out.same hk2).rd hx
          by_cases he : x = []
          · have hce : x.isEmpty = true := by rw [he]; rfl
            have hb : false = (!l.contains []) := by
              have : l.contains [] = true := by simpa using List.mem_of_getElem? (he ▸ hx)
              rw [this]; rfl
            have Hno := Lib.hid hno
            have Hk2 := Lib.hid hk2
            have Hx := Lib.hid hx
            have He := Lib.hid he
            have Hb := Lib.hid hb
            clear hno hk2 hx he hb
            go_wp2_with fail
            go_ret2
            exact Hfin.out _ _ Hb.out Hk2.out
          · have hce : x.isEmpty = false := by simp [he]
            have hno2 : ∀ k y, k < j + 1 → l[k]? = some y → y ≠ [] := fun k y hk hy => by
              by_cases e : k = j
              · subst e; rw [hx] at hy; injection hy with hy; rw [← hy]; exact he
              · exact hno k y (by omega) hy
            have Hno := Lib.hid hno
            have Hk2 := Lib.hid hk2
            have Hx := Lib.hid hx
            have He := Lib.hid he
            have Hno2 := Lib.hid hno2
            clear hno hk2 hx he hno2
            go_wp2_with fail
            go_roundw
            case rel => exact ⟨j + 1, by simp, by omega, Hno2.out, Hk2.out⟩
            case measure => simp [intOf]; omega
        · obtain rfl : j = m := by omega
          have hjI : ¬ (j : Int) < j := by omega
          have hb : true = (!l.contains []) := by
            cases hc : l.contains [] with
            | false => rfl
            | true =>
              have hmem : [] ∈ l := by simpa using hc
              obtain ⟨k, hk, he⟩ := List.getElem_of_mem hmem
              exact absurd he (hno k _ (by rw [Hm.out]; exact hk) (List.getElem?_eq_getElem hk))
          have Hno := Lib.hid hno
          have Hk2 := Lib.hid hk2
          have Hb := Lib.hid hb
          clear hno hk2 hb
          go_wp2_with fail
          go_ret2
          exact Hfin.out _ _ Hb.out Hk2.out
end Go.Proofs.YtnlmdfbjmhcilaaDoor
