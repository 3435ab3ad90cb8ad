/-
  frame: Feed at any stream; law 6's Texts.
-/
import Derived.Test.YtblmbchjafffbaaF4
import Derived.Test.YtblmbchjafffbaaStr
namespace Go.Proofs.Ytblmbchjafffbaa
open Go.RowKit

theorem feed_any (p : Nat) (g g1 : Option Nat) (L B : List UInt8) (d : Bool) (m : Nat) (v1 : Value) (w : World) (h : StAt 84 w p g L d) (hr1 : Rd w v1 g1 (B.map bv)) (hm : m ≤ 65535) (hlb : L.length + B.length ≤ 1099511627776) :
    Calls Try.prog 18 #[.pointer (some ⟨p, 0, none⟩), v1, .int .i64 m] w (RetFeed 84 w p g (feedS m L d B)) := by
  cases d
  · exact feed_live p g g1 L B m v1 w h hr1 hm hlb
  · exact feed_done p g L B m v1 w h
theorem rfeed_any (p : Nat) (g g1 : Option Nat) (L B : List UInt8) (d : Bool) (m : Nat) (v1 : Value) (w : World) (h : StAt 44 w p g L d) (hr1 : Rd w v1 g1 (B.map bv)) (hm : m ≤ 65535) (hlb : L.length + B.length ≤ 1099511627776) :
    Calls Try.prog 23 #[.pointer (some ⟨p, 0, none⟩), v1, .int .i64 m] w (RetFeed 44 w p g (feedS m L d B)) := by
  cases d
  · exact rfeed_live p g g1 L B m v1 w h hr1 hm hlb
  · exact rfeed_done p g L B m v1 w h

theorem strOf_ne {L M : List UInt8} (h : L ≠ M) : ((strOf L).toList == (strOf M).toList) = false := by
  rw [strOf_toList, strOf_toList]; simpa using h

set_option maxHeartbeats 1600000 in
set_option maxRecDepth 8000 in
theorem texts_any (va vb : Value) (ga gb : Option Nat) (vs us : List Value) (Ls Ms : List (List UInt8)) (A B : Nat → Prop) (w : World) (hra : Rd w va ga vs) (hpa : Parts w A vs Ls) (hrb : Rd w vb gb us) (hpb : Parts w B us Ms) :
    Calls Try.prog 19 #[va, vb] w fun e w' => e = .returned (.bool (decide (Ls = Ms))) ∧ Keeps nowhere w w' := by
  obtain ⟨Aa, ca, rfl, hla, hma⟩ := hra.form
  obtain ⟨Ab, cb, rfl, hlb, hmb⟩ := hrb.form
  have hl1 := hpa.1
  have hl2 := hpb.1
  unfold maxLen at hma hmb
  by_cases hlen : vs.length = us.length
  · obtain ⟨n, hn⟩ : ∃ n, n = vs.length := ⟨_, rfl⟩
    have hnn : ((n : Int) != (n : Int)) = false := by simp
    have hn' : n = us.length := by omega
    have hca : ∀ j v, vs[j]? = some v → ∃ b o c, Aa = some ⟨b, o, none⟩ ∧ b < w.heap.size ∧ c = ca ∧ w.cell? ⟨b, o + j, none⟩ = some v := fun j v hv => by
      obtain ⟨b, o, c, he, -, hlt, -, -, hc⟩ := hra.plain (pos_of_get hv)
      injection he with e1 e2 e3
      exact ⟨b, o, c, e1, hlt, e3.symm, hc j v hv⟩
    have hcb : ∀ j v, us[j]? = some v → ∃ b o c, Ab = some ⟨b, o, none⟩ ∧ b < w.heap.size ∧ c = cb ∧ w.cell? ⟨b, o + j, none⟩ = some v := fun j v hv => by
      obtain ⟨b, o, c, he, -, hlt, -, -, hc⟩ := hrb.plain (pos_of_get hv)
      injection he with e1 e2 e3
      exact ⟨b, o, c, e1, hlt, e3.symm, hc j v hv⟩
    have hta : Ls.length = n := by omega
    have htb : Ms.length = n := by omega
    have hla' : n ≤ ca := by omega
    have hlb' : n ≤ cb := by omega
    rw [← hn, ← hn']
    clear hlen
    have Hra := Lib.hid hra
    have Hrb := Lib.hid hrb
    have Hpa := Lib.hid hpa
    have Hpb := Lib.hid hpb
    have Hn := Lib.hid hn
    have Hn' := Lib.hid hn'
    have Hl1 := Lib.hid hl1
    have Hl2 := Lib.hid hl2
    have Hca := Lib.hid hca
    have Hcb := Lib.hid hcb
    have Hta := Lib.hid hta
    have Htb := Lib.hid htb
    have Hla := Lib.hid hla
    have Hlb := Lib.hid hlb
    clear hra hrb hpa hpb hn hn' hl1 hl2 hca hcb hta htb hla hlb
    go_enter Try.func19, Try.ntmps19
    go_wp2_with fail
    go_loopw [5] (fun i wr => ∃ k : Nat, k ≤ n ∧ i = .int .i64 k ∧ Ls.take k = Ms.take k ∧ Keeps nowhere w wr) (fun i _ => n - (intOf i).toNat)
    case atStart => exact ⟨0, Nat.zero_le _, rfl, by simp, Keeps.refl _ _⟩
    case round =>
      obtain ⟨k, hk, rfl, htk, hkr⟩ := hrel
      by_cases hlt : k < n
      · obtain ⟨v, L, g, h1, h2, h3, -⟩ := Hpa.out.at_ (i := k) (by rw [← Hn.out]; exact hlt)
        obtain ⟨u, M, g', h4, h5, h6, -⟩ := Hpb.out.at_ (i := k) (by rw [← Hn'.out]; exact hlt)
        obtain ⟨ba, oa, ca', rfl, hlta, rfl, hcella⟩ := Hca.out k v h1
        obtain ⟨bb, ob, cb', rfl, hltb, rfl, hcellb⟩ := Hcb.out k u h4
        have h3r := h3.keep hkr (fun _ _ h => h)
        have h6r := h6.keep hkr (fun _ _ h => h)
        have ha := (hkr.cell (p := ⟨ba, oa + k, none⟩) hlta (fun h => h)).trans hcella
        have hb := (hkr.cell (p := ⟨bb, ob + k, none⟩) hltb (fun h => h)).trans hcellb
        have ra : ∀ w', w' = wr.drew → w'.cell? ⟨ba, oa + k, none⟩ = some v := fun w' hs => by rw [hs]; exact ha
        have qa : ∀ w', w' = wr.drew → (convert 24 9 v).run Try.prog w' = .ok (.string (strOf L)) w' := fun w' hs => by
          subst hs
          exact conv_str _ _ _ _ (h3r.keep (w' := wr.drew) ((Keeps.refl nowhere wr).drew) (fun _ _ h => h))
        have qb : (convert 24 9 u).run Try.prog wr.drew = .ok (.string (strOf M)) wr.drew := conv_str _ _ _ _ (h6r.keep (w' := wr.drew) ((Keeps.refl nowhere wr).drew) (fun _ _ h => h))
        have hk0 : (0 : Int) ≤ k ∧ (k : Int) < n := by omega
        have hL : Ls.take (k + 1) = Ls.take k ++ [L] := by rw [List.take_add_one, h2]; rfl
        have hM : Ms.take (k + 1) = Ms.take k ++ [M] := by rw [List.take_add_one, h5]; rfl
        by_cases he : L = M
        · have hq := strOf_beq he
          have hsucc : Ls.take (k + 1) = Ms.take (k + 1) := by rw [hL, hM, htk, he]
          have H1 := Lib.hid h1
          have H2 := Lib.hid h2
          have H3 := Lib.hid h3
          have H4 := Lib.hid h4
          have H5 := Lib.hid h5
          have H6 := Lib.hid h6
          have H3r := Lib.hid h3r
          have H6r := Lib.hid h6r
          have Htk := Lib.hid htk
          have Hkr := Lib.hid hkr
          have HL := Lib.hid hL
          have HM := Lib.hid hM
          have He := Lib.hid he
          have Hsucc := Lib.hid hsucc
          clear h1 h2 h3 h4 h5 h6 h3r h6r htk hkr hL hM he hsucc
          go_wp2_with fail
          refine wp_region_script [0, 1, 2, 3, 4, 5, 6, 7, 10] [3, 4] [.ps [0, 1, 2], .fs [3, 4], .ps [5, 6, 7], .es [8] true, .es [9] true, .ps [10]] (fun w' => w' = wr.drew) rfl (by kernel_rfl) ?_
          refine wpS_ps rfl fun K hK => ?_
          simp only [List.map_cons, List.map_nil, Option.getD_some, List.getElem?_toArray, List.getElem?_cons_zero, List.getElem?_cons_succ]
          iterate 3 (first | (apply quietO_cons _ rfl; (intro w' _; go_simp; rfl)) | apply quietO_skip rfl)
          refine hK _ ?_
          clear hK K
          simp only [Act.put, List.setIfInBounds_toArray, List.set_cons_zero, List.set_cons_succ]
          refine wpS_fs rfl (rfl) fun K hK => ?_
          simp only [List.map_cons, List.map_nil, Option.getD_some, List.getElem?_toArray, List.getElem?_cons_zero, List.getElem?_cons_succ]
          iterate 2 (first | (apply quietO_cons _ rfl; (intro w' hs; have c_0 := ra w' hs; have c_1 := qa w' hs; go_simp; rfl)) | apply quietO_skip rfl)
          refine hK _ ?_
          clear hK K
          simp only [Act.put, List.setIfInBounds_toArray, List.set_cons_zero, List.set_cons_succ]
          clear ra qa
          refine wpS_ps rfl fun K hK => ?_
          simp only [List.map_cons, List.map_nil, Option.getD_some, List.getElem?_toArray, List.getElem?_cons_zero, List.getElem?_cons_succ]
          iterate 3 (first | (apply quietO_cons _ rfl; (intro w' _; go_simp; rfl)) | apply quietO_skip rfl)
          refine hK _ ?_
          clear hK K
          simp only [Act.put, List.setIfInBounds_toArray, List.set_cons_zero, List.set_cons_succ]
          refine wpS_es rfl fun K hK => ?_
          have HK := Lib.hid hK
          clear hK
          simp only [List.map_cons, List.map_nil, Option.getD_some, List.getElem?_toArray, List.getElem?_cons_zero, List.getElem?_cons_succ]
          go_wp2_with fail
          refine HK.out _ _ (fun _ => rfl) ?_
          clear HK K
          refine wpS_es rfl fun K hK => ?_
          have HK := Lib.hid hK
          clear hK
          simp only [List.map_cons, List.map_nil, Option.getD_some, List.getElem?_toArray, List.getElem?_cons_zero, List.getElem?_cons_succ]
          go_wp2_with fail
          refine HK.out _ _ (fun _ => rfl) ?_
          clear HK K
          refine wpS_ps rfl fun K hK => ?_
          simp only [List.map_cons, List.map_nil, Option.getD_some, List.getElem?_toArray, List.getElem?_cons_zero, List.getElem?_cons_succ]
          iterate 1 (first | (apply quietO_cons _ rfl; (intro w' _; go_simp; rfl)) | apply quietO_skip rfl)
          refine hK _ ?_
          clear hK K
          simp only [Act.put, List.setIfInBounds_toArray, List.set_cons_zero, List.set_cons_succ]
          refine wpS_nil ?_
          go_wp2_with fail
          go_roundw
          case rel => exact ⟨k + 1, by omega, by go_num, Hsucc.out, Hkr.out.drew⟩
          case measure => simp [intOf]; omega
        · have hq := strOf_ne he
          have hres : decide (Ls = Ms) = false := by
            rw [decide_eq_false_iff_not]
            intro e
            subst e
            rw [h2] at h5
            injection h5 with h5
            exact he h5
          have H1 := Lib.hid h1
          have H2 := Lib.hid h2
          have H3 := Lib.hid h3
          have H4 := Lib.hid h4
          have H5 := Lib.hid h5
          have H6 := Lib.hid h6
          have H3r := Lib.hid h3r
          have H6r := Lib.hid h6r
          have Htk := Lib.hid htk
          have Hkr := Lib.hid hkr
          have HL := Lib.hid hL
          have HM := Lib.hid hM
          have He := Lib.hid he
          have Hres := Lib.hid hres
          clear h1 h2 h3 h4 h5 h6 h3r h6r htk hkr hL hM he hres
          go_wp2_with fail
          refine wp_region_script [0, 1, 2, 3, 4, 5, 6, 7, 10] [3, 4] [.ps [0, 1, 2], .fs [3, 4], .ps [5, 6, 7], .es [8] true, .es [9] true, .ps [10]] (fun w' => w' = wr.drew) rfl (by kernel_rfl) ?_
          refine wpS_ps rfl fun K hK => ?_
          simp only [List.map_cons, List.map_nil, Option.getD_some, List.getElem?_toArray, List.getElem?_cons_zero, List.getElem?_cons_succ]
          iterate 3 (first | (apply quietO_cons _ rfl; (intro w' _; go_simp; rfl)) | apply quietO_skip rfl)
          refine hK _ ?_
          clear hK K
          simp only [Act.put, List.setIfInBounds_toArray, List.set_cons_zero, List.set_cons_succ]
          refine wpS_fs rfl (rfl) fun K hK => ?_
          simp only [List.map_cons, List.map_nil, Option.getD_some, List.getElem?_toArray, List.getElem?_cons_zero, List.getElem?_cons_succ]
          iterate 2 (first | (apply quietO_cons _ rfl; (intro w' hs; have c_0 := ra w' hs; have c_1 := qa w' hs; go_simp; rfl)) | apply quietO_skip rfl)
          refine hK _ ?_
          clear hK K
          simp only [Act.put, List.setIfInBounds_toArray, List.set_cons_zero, List.set_cons_succ]
          clear ra qa
          refine wpS_ps rfl fun K hK => ?_
          simp only [List.map_cons, List.map_nil, Option.getD_some, List.getElem?_toArray, List.getElem?_cons_zero, List.getElem?_cons_succ]
          iterate 3 (first | (apply quietO_cons _ rfl; (intro w' _; go_simp; rfl)) | apply quietO_skip rfl)
          refine hK _ ?_
          clear hK K
          simp only [Act.put, List.setIfInBounds_toArray, List.set_cons_zero, List.set_cons_succ]
          refine wpS_es rfl fun K hK => ?_
          have HK := Lib.hid hK
          clear hK
          simp only [List.map_cons, List.map_nil, Option.getD_some, List.getElem?_toArray, List.getElem?_cons_zero, List.getElem?_cons_succ]
          go_wp2_with fail
          refine HK.out _ _ (fun _ => rfl) ?_
          clear HK K
          refine wpS_es rfl fun K hK => ?_
          have HK := Lib.hid hK
          clear hK
          simp only [List.map_cons, List.map_nil, Option.getD_some, List.getElem?_toArray, List.getElem?_cons_zero, List.getElem?_cons_succ]
          go_wp2_with fail
          refine HK.out _ _ (fun _ => rfl) ?_
          clear HK K
          refine wpS_ps rfl fun K hK => ?_
          simp only [List.map_cons, List.map_nil, Option.getD_some, List.getElem?_toArray, List.getElem?_cons_zero, List.getElem?_cons_succ]
          iterate 1 (first | (apply quietO_cons _ rfl; (intro w' _; go_simp; rfl)) | apply quietO_skip rfl)
          refine hK _ ?_
          clear hK K
          simp only [Act.put, List.setIfInBounds_toArray, List.set_cons_zero, List.set_cons_succ]
          refine wpS_nil ?_
          go_wp2_with fail
          go_ret
          exact ⟨by rw [Hres.out]; rfl, Hkr.out.drew⟩
      · obtain rfl : k = n := by omega
        have hres : decide (Ls = Ms) = true := by
          rw [decide_eq_true_eq]
          have e1 := Hta.out
          have e2 := Htb.out
          rw [← e1, List.take_length, e1, ← e2, List.take_length] at htk
          exact htk
        have Hres := Lib.hid hres
        have Hkr := Lib.hid hkr
        have Htk := Lib.hid htk
        clear hres hkr htk
        go_wp2_with fail
        go_ret
        exact ⟨by rw [Hres.out]; rfl, Hkr.out⟩
  · have hlen' : ((vs.length : Int) != (us.length : Int)) = true := by simp; omega
    have hres : decide (Ls = Ms) = false := by
      rw [decide_eq_false_iff_not]
      intro e
      subst e
      omega
    have Hra := Lib.hid hra
    have Hrb := Lib.hid hrb
    have Hpa := Lib.hid hpa
    have Hpb := Lib.hid hpb
    have Hl1 := Lib.hid hl1
    have Hl2 := Lib.hid hl2
    have Hres := Lib.hid hres
    have Hla := Lib.hid hla
    have Hlb := Lib.hid hlb
    have Hlen := Lib.hid hlen
    clear hra hrb hpa hpb hl1 hl2 hres hla hlb hlen
    go_enter Try.func19, Try.ntmps19
    go_wp2_with fail
    go_ret
    exact ⟨by rw [Hres.out]; rfl, Keeps.refl _ _⟩
end Go.Proofs.Ytblmbchjafffbaa
