/-
  Parts of the proof, joined in build order: Ex4, Ex5, Ex6, Ex7, Clone, Append, AppB, RefNumE, AppS, Ex8, ZerosB, NumOut, NumRaw, Ex9, TrimR, RoundB, RoundP, ChunkI, NumIn, NumCut.
-/
import Derived.Test.YtnlmdfbjmhcilaaDoorMa2
import Derived.BigQuiet
import Derived.Test.YtnlmdfbjmhcilaaDoorRows
import Derived.Deep.AppendLies
import Derived.Deep.RegionLaw
import Derived.Lib.Walk
import Derived.WalkSpells
import Derived.Maps.AppendAt
import Derived.Laws.AppendOwnNone
import Derived.Deep.RegionWith
import Derived.Lib.AppendStr
import Derived.OwnWalk
import Derived.WalkKit
import Derived.Deep.RegionHeld3
import Derived.Deep.DrawnRows
import Derived.Outline
import Derived.IntWalk
import Derived.WalkLawsBesides
import Derived.OrdersIn
import Derived.Test.YtnlmdfbjmhcilaaDoorChecked
import Derived.RangeFuncNested
import Derived.RangeFuncBound
import Derived.RangeFuncCalls
import Derived.RangeFuncLeaves
import Derived.Shelf.Abstract
import Derived.Shelf.RegionOpen
import Derived.OwnWalkIn
import Derived.TacticsInMore
import Derived.LoopNIn
import Derived.LoopIn
import Derived.Defers
import Derived.Recover
set_option linter.unusedVariables false
set_option linter.unusedSimpArgs false
/-
  entry: the law's check.
-/
namespace Go.Proofs.YtnlmdfbjmhcilaaDoor
open Go.RowKit Go.Proofs
attribute [local go_sem] strOf_size strOf_get strOf_toList

def entD : EntV := ([], 0)
/-- what is wrong of the `i`-th -/
def entChk (l : List EntV) (i : Nat) : Int := if mayE (l.getD i entD) = 0 then (if 0 < i ∧ ltS (l.getD (i - 1) entD).1 (l.getD i entD).1 = false then 7 else 0) else mayE (l.getD i entD)
def checkN (l : List EntV) : Nat → Int
  | 0 => 0
  | k + 1 => if checkN l k = 0 then entChk l k else checkN l k
def checkE (l : List EntV) : Int := checkN l l.length
theorem checkN_stays {l : List EntV} {k n : Nat} (h : checkN l k ≠ 0) (hk : k ≤ n) : checkN l n = checkN l k := by
  induction n with
  | zero => have : k = 0 := by omega
            subst this; rfl
  | succ n ih =>
    by_cases e : k = n + 1
    · subst e; rfl
    · have := ih (by omega)
      rw [checkN, this, if_neg h]
def ChkP (l : List EntV) (w : World) : Ending → World → Prop := fun e w' => e = .returned (.int .i64 (checkE l)) ∧ w' = w
theorem ChkP.is {l : List EntV} {w : World} {k : Int} (h : checkE l = k) : ChkP l w (.returned (.int .i64 k)) w := ⟨by rw [h], rfl⟩
set_option maxRecDepth 20000 in
set_option maxHeartbeats 8000000 in
theorem check_any (A : Option Addr) (c : Nat) (g : Option Nat) (l : List EntV) (w : World) (hr : recE.Rd w (.slice A l.length c) g l) (hl : l.length ≤ 100000000) (hs : ∀ (i : Nat) (x : EntV), l[i]? = some x → x.1.length ≤ 1000000000) :
    Calls Tryd.prog 12 #[.slice A l.length c] w fun e w' => e = .returned (.int .i64 (checkE l)) ∧ Keeps nowhere w w' := by
  obtain ⟨n, hn⟩ : ∃ n, n = l.length := ⟨_, rfl⟩
  have hx := fun hp => rdE_cells hr hp
  rw [← hn] at hl ⊢
  have Hr := Lib.hid hr
  have Hn := Lib.hid hn
  have Hx := Lib.hid hx
  have Hs := Lib.hid hs
  clear hr hn hx hs
  go_enter Tryd.func12, Tryd.ntmps12
  go_wp2_with fail
  go_loopw [3] (fun iv wr => ∃ i : Nat, iv = .int .i64 i ∧ i ≤ n ∧ checkN l i = 0 ∧ Keeps nowhere w wr) (fun iv _ => n - (intOf iv).toNat)
  case atStart => exact ⟨0, rfl, Nat.zero_le _, rfl, Keeps.refl _ _⟩
  case round =>
    obtain ⟨i, rfl, hi, hok, hk⟩ := hrel
    by_cases hlt : i < n
    · have hltI : (i : Int) < n := by omega
      have hi0 : (0 : Int) ≤ (i : Int) := by omega
      have hi1 : IntKind.i64.wrap ((i : Int) + 1) = i + 1 := IntWalk.i64_in _ (by omega)
      obtain ⟨x, hxx⟩ : ∃ x, l[i]? = some x := ⟨_, List.getElem?_eq_getElem (by rw [← Hn.out]; exact hlt)⟩
      obtain ⟨b, o, hA, hb, hcells⟩ := Hx.out (by rw [← Hn.out]; omega)
      obtain ⟨c0, c1⟩ := hcells wr hk i x hxx
      subst hA
      have hgd : l.getD i entD = x := by rw [List.getD_eq_getElem?_getD, hxx]; rfl
      have hnm := name_ref x.1 (Hs.out i x hxx) wr
      unfold RNameP at hnm
      have hstep : ∀ e : Int, entChk l i = e → e ≠ 0 → checkE l = e := fun e he h0 => by
        have h1 : checkN l (i + 1) = e := by rw [checkN, if_pos hok, he]
        unfold checkE
        rw [← Hn.out, checkN_stays (by rw [h1]; exact h0) (by omega : i + 1 ≤ n), h1]
      have hnext : entChk l i = 0 → checkN l (i + 1) = 0 := fun he => by rw [checkN, if_pos hok, he]
      obtain ⟨e0, he0⟩ : ∃ e, e = nameE x.1 := ⟨_, rfl⟩
      rw [← he0] at hnm
      by_cases z0 : e0 = 0
      · by_cases z1 : x.2 = 0
        · have hz1 : ((x.2 : Int) == 0) = true := by simp [z1]
          have hm : mayE x = 1 := by unfold mayE; rw [← he0, if_pos z0, if_pos z1]
          have hfin := hstep 1 (by unfold entChk; rw [hgd, hm]; rfl) (by decide)
          subst z0
          clear hstep hnext hcells
          have Hnm := Lib.hid hnm
          have Hfin := Lib.hid hfin
          have Hk := Lib.hid hk
          have Hok := Lib.hid hok
          have Hxx := Lib.hid hxx
          have He0 := Lib.hid he0
          have Hm := Lib.hid hm
          have Hgd := Lib.hid hgd
          have Z1 := Lib.hid z1
          clear hnm hfin hk hok hxx he0 hm hgd z1
          go_wp2_with fail
          refine Hnm.out.mono ?_
          rintro e w2 ⟨rfl, rfl⟩
          go_wp2_with fail
          go_ret
          exact ⟨by rw [Hfin.out]; rfl, Hk.out⟩
        · have hz1 : ((x.2 : Int) == 0) = false := by simp [z1]
          have hm : mayE x = 0 := by unfold mayE; rw [← he0, if_pos z0, if_neg z1]
          subst z0
          by_cases hi2 : i = 0
          · have hc0 := hnext (by unfold entChk; rw [hgd, hm, if_pos rfl, if_neg (by omega)])
            have hi2I : decide ((0 : Int) < (i : Int)) = false := by simp [hi2]
            have hi2N : decide (0 < i) = false := by simp [hi2]
            clear hstep hnext hcells
            have Hnm := Lib.hid hnm
            have Hc0 := Lib.hid hc0
            have Hk := Lib.hid hk
            have Hok := Lib.hid hok
            have Hxx := Lib.hid hxx
            have He0 := Lib.hid he0
            have Hm := Lib.hid hm
            have Hgd := Lib.hid hgd
            have Z1 := Lib.hid z1
            have Hi2 := Lib.hid hi2
            clear hnm hc0 hk hok hxx he0 hm hgd z1 hi2
            go_wp2_with fail
            refine Hnm.out.mono ?_
            rintro e w2 ⟨rfl, rfl⟩
            go_wp2_with fail
            go_quiet (fail)
            go_wp2_with fail
            go_roundw
            case rel => exact ⟨i + 1, by simp, by omega, Hc0.out, Hk.out.drewN _⟩
            case measure => simp [intOf]; omega
          · have hi2I : decide ((0 : Int) < (i : Int)) = true := decide_eq_true (by omega)
            have hi2N : decide (0 < i) = true := decide_eq_true (by omega)
            obtain ⟨j, hj⟩ : ∃ j, j = i - 1 := ⟨_, rfl⟩
            have hj0 : (0 : Int) ≤ (j : Int) := by omega
            have hjlt : (j : Int) < n := by omega
            have hjlN : j < n := by omega
            have hjw : IntKind.i64.wrap ((i : Int) - 1) = j := by rw [hj, IntWalk.i64_in _ (by omega)]; omega
            obtain ⟨y, hyy⟩ : ∃ y, l[j]? = some y := ⟨_, List.getElem?_eq_getElem (by rw [← Hn.out]; exact hjlN)⟩
            have hgy : l.getD (i - 1) entD = y := by rw [← hj, List.getD_eq_getElem?_getD, hyy]; rfl
            obtain ⟨d0, d1⟩ := hcells wr hk j y hyy
            have q0 : ∀ w', w' = wr.drew → w'.cell? ⟨b, o + j * 2, none⟩ = some (.string (strOf y.1)) := fun w' e => by rw [e]; exact d0
            have q1 : ∀ w', w' = wr.drew → w'.cell? ⟨b, o + i * 2, none⟩ = some (.string (strOf x.1)) := fun w' e => by rw [e]; exact c0
            by_cases hord : Go.Op.bytesLess y.1 x.1 = true
            · have hc0 := hnext (by unfold entChk; rw [hgd, hgy, hm, if_pos rfl, if_neg (by intro h; rw [ltS] at h; rw [hord] at h; exact absurd h.2 (by decide))])
              clear hstep hnext hcells
              have Hnm := Lib.hid hnm
              have Hc0 := Lib.hid hc0
              have Hk := Lib.hid hk
              have Hok := Lib.hid hok
              have Hxx := Lib.hid hxx
              have He0 := Lib.hid he0
              have Hm := Lib.hid hm
              have Hgd := Lib.hid hgd
              have Z1 := Lib.hid z1
              have Hyy := Lib.hid hyy
              have Hgy := Lib.hid hgy
              have Hj := Lib.hid hj
              clear hnm hc0 hk hok hxx he0 hm hgd z1 hyy hgy hj
              go_wp2_with fail
              refine Hnm.out.mono ?_
              rintro e w2 ⟨rfl, rfl⟩
              go_wp2_with fail
              refine wp_region_script [0, 1, 2, 3, 4, 5, 6, 7, 8, 9, 10, 11, 12, 13, 14, 15] [8, 13] [.ps [0, 1, 2], .ps [3, 4, 5], .ps [6, 7], .fs [8], .ps [9, 10, 11], .ps [12], .fs [13], .ps [14, 15]] (fun w' => w' = w2.drew) rfl (by kernel_rfl) ?_
              refine wpS_ps rfl fun K hK => ?_
              simp only [List.map_cons, List.map_nil, Option.getD_some, List.getElem?_toArray, List.getElem?_cons_zero, List.getElem?_cons_succ]
              iterate 3 (first | (apply quietO_cons _ rfl; (intro w' _; go_simp; rfl)) | apply quietO_skip rfl)
              refine hK _ ?_
              clear hK K
              simp only [Act.put, List.setIfInBounds_toArray, List.set_cons_zero, List.set_cons_succ]
              refine wpS_ps rfl fun K hK => ?_
              simp only [List.map_cons, List.map_nil, Option.getD_some, List.getElem?_toArray, List.getElem?_cons_zero, List.getElem?_cons_succ]
              iterate 3 (first | (apply quietO_cons _ rfl; (intro w' _; go_simp; rfl)) | apply quietO_skip rfl)
              refine hK _ ?_
              clear hK K
              simp only [Act.put, List.setIfInBounds_toArray, List.set_cons_zero, List.set_cons_succ]
              refine wpS_ps rfl fun K hK => ?_
              simp only [List.map_cons, List.map_nil, Option.getD_some, List.getElem?_toArray, List.getElem?_cons_zero, List.getElem?_cons_succ]
              iterate 2 (first | (apply quietO_cons _ rfl; (intro w' _; go_simp; rfl)) | apply quietO_skip rfl)
              refine hK _ ?_
              clear hK K
              simp only [Act.put, List.setIfInBounds_toArray, List.set_cons_zero, List.set_cons_succ]
              refine wpS_fs rfl (rfl) fun K hK => ?_
              simp only [List.map_cons, List.map_nil, Option.getD_some, List.getElem?_toArray, List.getElem?_cons_zero, List.getElem?_cons_succ]
              iterate 1 (first | (apply quietO_cons _ rfl; (intro w' hs; have c_0 := q0 w' hs; go_simp; rfl)) | apply quietO_skip rfl)
              refine hK _ ?_
              clear hK K
              simp only [Act.put, List.setIfInBounds_toArray, List.set_cons_zero, List.set_cons_succ]
              refine wpS_ps rfl fun K hK => ?_
              simp only [List.map_cons, List.map_nil, Option.getD_some, List.getElem?_toArray, List.getElem?_cons_zero, List.getElem?_cons_succ]
              iterate 3 (first | (apply quietO_cons _ rfl; (intro w' _; go_simp; rfl)) | apply quietO_skip rfl)
              refine hK _ ?_
              clear hK K
              simp only [Act.put, List.setIfInBounds_toArray, List.set_cons_zero, List.set_cons_succ]
              refine wpS_ps rfl fun K hK => ?_
              simp only [List.map_cons, List.map_nil, Option.getD_some, List.getElem?_toArray, List.getElem?_cons_zero, List.getElem?_cons_succ]
              iterate 1 (first | (apply quietO_cons _ rfl; (intro w' _; go_simp; rfl)) | apply quietO_skip rfl)
              refine hK _ ?_
              clear hK K
              simp only [Act.put, List.setIfInBounds_toArray, List.set_cons_zero, List.set_cons_succ]
              refine wpS_fs rfl (rfl) fun K hK => ?_
              simp only [List.map_cons, List.map_nil, Option.getD_some, List.getElem?_toArray, List.getElem?_cons_zero, List.getElem?_cons_succ]
              iterate 1 (first | (apply quietO_cons _ rfl; (intro w' hs; have c_0 := q1 w' hs; go_simp; rfl)) | apply quietO_skip rfl)
              refine hK _ ?_
              clear hK K
              simp only [Act.put, List.setIfInBounds_toArray, List.set_cons_zero, List.set_cons_succ]
              refine wpS_ps rfl fun K hK => ?_
              simp only [List.map_cons, List.map_nil, Option.getD_some, List.getElem?_toArray, List.getElem?_cons_zero, List.getElem?_cons_succ]
              iterate 2 (first | (apply quietO_cons _ rfl; (intro w' _; go_simp; rfl)) | apply quietO_skip rfl)
              refine hK _ ?_
              clear hK K
              simp only [Act.put, List.setIfInBounds_toArray, List.set_cons_zero, List.set_cons_succ]
              refine wpS_nil ?_
              go_wp2_with fail
              go_roundw
              case rel => exact ⟨i + 1, by simp, by omega, Hc0.out, Hk.out.drewN _⟩
              case measure => simp [intOf]; omega
            · have hordF : Go.Op.bytesLess y.1 x.1 = false := by simpa using hord
              have hfin := hstep 7 (by unfold entChk; rw [hgd, hgy, hm, if_pos rfl, if_pos ⟨by omega, by rw [ltS]; exact hordF⟩]) (by decide)
              clear hstep hnext hcells
              have Hnm := Lib.hid hnm
              have Hfin := Lib.hid hfin
              have Hk := Lib.hid hk
              have Hok := Lib.hid hok
              have Hxx := Lib.hid hxx
              have He0 := Lib.hid he0
              have Hm := Lib.hid hm
              have Hgd := Lib.hid hgd
              have Z1 := Lib.hid z1
              have Hyy := Lib.hid hyy
              have Hgy := Lib.hid hgy
              have Hj := Lib.hid hj
              clear hnm hfin hk hok hxx he0 hm hgd z1 hyy hgy hj
              go_wp2_with fail
              refine Hnm.out.mono ?_
              rintro e w2 ⟨rfl, rfl⟩
              go_wp2_with fail
              refine wp_region_script [0, 1, 2, 3, 4, 5, 6, 7, 8, 9, 10, 11, 12, 13, 14, 15] [8, 13] [.ps [0, 1, 2], .ps [3, 4, 5], .ps [6, 7], .fs [8], .ps [9, 10, 11], .ps [12], .fs [13], .ps [14, 15]] (fun w' => w' = w2.drew) rfl (by kernel_rfl) ?_
              refine wpS_ps rfl fun K hK => ?_
              simp only [List.map_cons, List.map_nil, Option.getD_some, List.getElem?_toArray, List.getElem?_cons_zero, List.getElem?_cons_succ]
              iterate 3 (first | (apply quietO_cons _ rfl; (intro w' _; go_simp; rfl)) | apply quietO_skip rfl)
              refine hK _ ?_
              clear hK K
              simp only [Act.put, List.setIfInBounds_toArray, List.set_cons_zero, List.set_cons_succ]
              refine wpS_ps rfl fun K hK => ?_
              simp only [List.map_cons, List.map_nil, Option.getD_some, List.getElem?_toArray, List.getElem?_cons_zero, List.getElem?_cons_succ]
              iterate 3 (first | (apply quietO_cons _ rfl; (intro w' _; go_simp; rfl)) | apply quietO_skip rfl)
              refine hK _ ?_
              clear hK K
              simp only [Act.put, List.setIfInBounds_toArray, List.set_cons_zero, List.set_cons_succ]
              refine wpS_ps rfl fun K hK => ?_
              simp only [List.map_cons, List.map_nil, Option.getD_some, List.getElem?_toArray, List.getElem?_cons_zero, List.getElem?_cons_succ]
              iterate 2 (first | (apply quietO_cons _ rfl; (intro w' _; go_simp; rfl)) | apply quietO_skip rfl)
              refine hK _ ?_
              clear hK K
              simp only [Act.put, List.setIfInBounds_toArray, List.set_cons_zero, List.set_cons_succ]
              refine wpS_fs rfl (rfl) fun K hK => ?_
              simp only [List.map_cons, List.map_nil, Option.getD_some, List.getElem?_toArray, List.getElem?_cons_zero, List.getElem?_cons_succ]
              iterate 1 (first | (apply quietO_cons _ rfl; (intro w' hs; have c_0 := q0 w' hs; go_simp; rfl)) | apply quietO_skip rfl)
              refine hK _ ?_
              clear hK K
              simp only [Act.put, List.setIfInBounds_toArray, List.set_cons_zero, List.set_cons_succ]
              refine wpS_ps rfl fun K hK => ?_
              simp only [List.map_cons, List.map_nil, Option.getD_some, List.getElem?_toArray, List.getElem?_cons_zero, List.getElem?_cons_succ]
              iterate 3 (first | (apply quietO_cons _ rfl; (intro w' _; go_simp; rfl)) | apply quietO_skip rfl)
              refine hK _ ?_
              clear hK K
              simp only [Act.put, List.setIfInBounds_toArray, List.set_cons_zero, List.set_cons_succ]
              refine wpS_ps rfl fun K hK => ?_
              simp only [List.map_cons, List.map_nil, Option.getD_some, List.getElem?_toArray, List.getElem?_cons_zero, List.getElem?_cons_succ]
              iterate 1 (first | (apply quietO_cons _ rfl; (intro w' _; go_simp; rfl)) | apply quietO_skip rfl)
              refine hK _ ?_
              clear hK K
              simp only [Act.put, List.setIfInBounds_toArray, List.set_cons_zero, List.set_cons_succ]
              refine wpS_fs rfl (rfl) fun K hK => ?_
              simp only [List.map_cons, List.map_nil, Option.getD_some, List.getElem?_toArray, List.getElem?_cons_zero, List.getElem?_cons_succ]
              iterate 1 (first | (apply quietO_cons _ rfl; (intro w' hs; have c_0 := q1 w' hs; go_simp; rfl)) | apply quietO_skip rfl)
              refine hK _ ?_
              clear hK K
              simp only [Act.put, List.setIfInBounds_toArray, List.set_cons_zero, List.set_cons_succ]
              refine wpS_ps rfl fun K hK => ?_
              simp only [List.map_cons, List.map_nil, Option.getD_some, List.getElem?_toArray, List.getElem?_cons_zero, List.getElem?_cons_succ]
              iterate 2 (first | (apply quietO_cons _ rfl; (intro w' _; go_simp; rfl)) | apply quietO_skip rfl)
              refine hK _ ?_
              clear hK K
              simp only [Act.put, List.setIfInBounds_toArray, List.set_cons_zero, List.set_cons_succ]
              refine wpS_nil ?_
              go_wp2_with fail
              go_ret
              exact ⟨by rw [Hfin.out]; rfl, Hk.out.drewN _⟩
      · have hm : mayE x = e0 := by unfold mayE; rw [← he0, if_neg z0]
        have hz0 : ((e0 : Int) == 0) = false := by simp [z0]
        have hfin := hstep e0 (by unfold entChk; rw [hgd, hm, if_neg z0]) z0
        clear hstep hnext hcells
        have Hnm := Lib.hid hnm
        have Hfin := Lib.hid hfin
        have Hk := Lib.hid hk
        have Hok := Lib.hid hok
        have Hxx := Lib.hid hxx
        have He0 := Lib.hid he0
        have Hm := Lib.hid hm
        have Hgd := Lib.hid hgd
        clear hnm hfin hk hok hxx he0 hm hgd
        go_wp2_with fail
        refine Hnm.out.mono ?_
        rintro e w2 ⟨rfl, rfl⟩
        go_wp2_with fail
        go_ret
        exact ⟨by rw [Hfin.out]; rfl, Hk.out⟩
    · obtain rfl : i = n := by omega
      have hiI : ¬ (i : Int) < i := by omega
      have hfin : checkE l = 0 := by unfold checkE; rw [← Hn.out]; exact hok
      clear hok
      have Hfin := Lib.hid hfin
      have Hk := Lib.hid hk
      clear hfin hk
      go_wp2_with fail
      go_ret
      exact ⟨by rw [Hfin.out]; rfl, Hk.out⟩
end Go.Proofs.YtnlmdfbjmhcilaaDoor
/-
  entry: few, the law's own.
-/
namespace Go.Proofs.YtnlmdfbjmhcilaaDoor
open Go.RowKit Go.Proofs
attribute [local go_sem] strOf_size strOf_get strOf_toList

def fewE (l : List EntV) : Bool := decide (l.length ≤ 60) && l.all fun x => decide (x.1.length ≤ 100)
theorem fewE_no {l : List EntV} {i : Nat} {x : EntV} (hx : l[i]? = some x) (h : 100 < x.1.length) : fewE l = false := by
  unfold fewE
  rw [Bool.and_eq_false_iff]
  right
  rw [List.all_eq_false]
  exact ⟨x, List.mem_of_getElem? hx, by simp; omega⟩
theorem fewE_yes {l : List EntV} (hl : l.length ≤ 60) (h : ∀ (k : Nat) (x : EntV), l[k]? = some x → x.1.length ≤ 100) : fewE l = true := by
  unfold fewE
  rw [Bool.and_eq_true]
  refine ⟨by simp [hl], List.all_eq_true.2 fun x hx => ?_⟩
  obtain ⟨k, hk⟩ := List.getElem?_of_mem hx
  simp [h k x hk]
set_option maxRecDepth 20000 in
set_option maxHeartbeats 8000000 in
theorem few_any (A : Option Addr) (c : Nat) (g : Option Nat) (l : List EntV) (w : World) (hr : recE.Rd w (.slice A l.length c) g l) :
    Calls Tryd.prog 10 #[.slice A l.length c] w fun e w' => e = .returned (.bool (fewE l)) ∧ Keeps nowhere w w' := by
  obtain ⟨n, hn⟩ : ∃ n, n = l.length := ⟨_, rfl⟩
  have hx := fun hp => rdE_cells hr hp
  rw [← hn]
  have Hr := Lib.hid hr
  have Hn := Lib.hid hn
  have Hx := Lib.hid hx
  clear hr hn hx
  by_cases h60 : 60 < n
  · have h60I : (60 : Int) < (n : Int) := by omega
    have hf : fewE l = false := by unfold fewE; rw [← Hn.out, decide_eq_false (by omega)]; rfl
    rw [hf]
    clear hf
    go_enter Tryd.func10, Tryd.ntmps10
    go_wp2_with fail
    go_ret
    exact ⟨rfl, Keeps.refl _ _⟩
  · have h60I : ¬ (60 : Int) < (n : Int) := by omega
    go_enter Tryd.func10, Tryd.ntmps10
    go_wp2_with fail
    go_loopw [3] (fun iv wr => ∃ i : Nat, iv = .int .i64 i ∧ i ≤ n ∧ (∀ (k : Nat) (x : EntV), k < i → l[k]? = some x → x.1.length ≤ 100) ∧ Keeps nowhere w wr) (fun iv _ => n - (intOf iv).toNat)
    case atStart => exact ⟨0, rfl, Nat.zero_le _, fun k x h => absurd h (Nat.not_lt_zero k), Keeps.refl _ _⟩
    case round =>
      obtain ⟨i, rfl, hi, hok, hk⟩ := hrel
      by_cases hlt : i < n
      · have hltI : (i : Int) < n := by omega
        have hi0 : (0 : Int) ≤ (i : Int) := by omega
        have hi1 : IntKind.i64.wrap ((i : Int) + 1) = i + 1 := IntWalk.i64_in _ (by omega)
        obtain ⟨x, hxx⟩ : ∃ x, l[i]? = some x := ⟨_, List.getElem?_eq_getElem (by rw [← Hn.out]; exact hlt)⟩
        obtain ⟨b, o, hA, hb, hcells⟩ := Hx.out (by rw [← Hn.out]; omega)
        obtain ⟨c0, c1⟩ := hcells wr hk i x hxx
        subst hA
        obtain ⟨q, hq⟩ : ∃ q, q = x.1.length := ⟨_, rfl⟩
        have hqs : (strOf x.1).size = q := by rw [strOf_size]; exact hq.symm
        by_cases hbig : 100 < q
        · have hbigI : (100 : Int) < (q : Int) := by omega
          have hf : fewE l = false := fewE_no hxx (by omega)
          clear hok hcells
          have Hf := Lib.hid hf
          have Hk := Lib.hid hk
          have Hxx := Lib.hid hxx
          have Hq := Lib.hid hq
          clear hf hk hxx hq
          go_wp2_with fail
          go_ret
          exact ⟨by rw [Hf.out]; rfl, Hk.out⟩
        · have hbigI : ¬ (100 : Int) < (q : Int) := by omega
          have hok' : ∀ (k : Nat) (x : EntV), k < i + 1 → l[k]? = some x → x.1.length ≤ 100 := by
            intro k y hk' hy
            by_cases e : k = i
            · subst e
              rw [hxx] at hy
              injection hy with hy
              subst hy
              omega
            · exact hok k y (by omega) hy
          clear hok hcells
          have Hok' := Lib.hid hok'
          have Hk := Lib.hid hk
          have Hxx := Lib.hid hxx
          have Hq := Lib.hid hq
          clear hok' hk hxx hq
          go_wp2_with fail
          go_roundw
          case rel => exact ⟨i + 1, by simp, by omega, Hok'.out, Hk.out⟩
          case measure => simp [intOf]; omega
      · obtain rfl : i = n := by omega
        have hiI : ¬ (i : Int) < i := by omega
        have hf : fewE l = true := fewE_yes (by rw [← Hn.out]; omega) fun k x hx => hok k x (by rw [Hn.out]; exact (List.getElem?_eq_some_iff.1 hx).1) hx
        clear hok
        have Hf := Lib.hid hf
        have Hk := Lib.hid hk
        clear hf hk
        go_wp2_with fail
        go_ret
        exact ⟨by rw [Hf.out]; rfl, Hk.out⟩
end Go.Proofs.YtnlmdfbjmhcilaaDoor
/-
  entry: same, the law's own.
-/
namespace Go.Proofs.YtnlmdfbjmhcilaaDoor
open Go.RowKit Go.Proofs
attribute [local go_sem] strOf_size strOf_get strOf_toList

def sameE (l m : List EntV) : Bool := decide (l = m)
theorem sameE_no {l m : List EntV} {i : Nat} {x y : EntV} (hx : l[i]? = some x) (hy : m[i]? = some y) (h : x ≠ y) : sameE l m = false := by
  unfold sameE
  refine decide_eq_false fun e => h ?_
  subst e
  rw [hx] at hy
  injection hy
theorem sameE_len {l m : List EntV} (h : l.length ≠ m.length) : sameE l m = false := decide_eq_false fun e => h (by rw [e])
theorem sameE_yes {l m : List EntV} (hl : l.length = m.length) (h : ∀ (k : Nat) (x y : EntV), l[k]? = some x → m[k]? = some y → x = y) : sameE l m = true := by
  refine decide_eq_true (List.ext_getElem hl fun k h1 h2 => ?_)
  exact h k _ _ (List.getElem?_eq_getElem h1) (List.getElem?_eq_getElem h2)
set_option maxRecDepth 20000 in
set_option maxHeartbeats 8000000 in
theorem same_any (A B : Option Addr) (c d : Nat) (g g' : Option Nat) (l m : List EntV) (w : World) (hr : recE.Rd w (.slice A l.length c) g l) (hr' : recE.Rd w (.slice B m.length d) g' m) (hl : l.length ≤ 100000000) :
    Calls Tryd.prog 15 #[.slice A l.length c, .slice B m.length d] w fun e w' => e = .returned (.bool (sameE l m)) ∧ Keeps nowhere w w' := by
  obtain ⟨n, hn⟩ : ∃ n, n = l.length := ⟨_, rfl⟩
  obtain ⟨p, hp⟩ : ∃ p, p = m.length := ⟨_, rfl⟩
  have hx := fun hp => rdE_cells hr hp
  have hy := fun hp => rdE_cells hr' hp
  rw [← hn] at hl ⊢
  rw [← hp]
  have Hr := Lib.hid hr
  have Hr' := Lib.hid hr'
  have Hn := Lib.hid hn
  have Hp := Lib.hid hp
  have Hx := Lib.hid hx
  have Hy := Lib.hid hy
  clear hr hr' hn hp hx hy
  by_cases h60 : n = p
  · subst h60
    go_enter Tryd.func15, Tryd.ntmps15
    go_wp2_with fail
    go_loopw [5] (fun iv wr => ∃ i : Nat, iv = .int .i64 i ∧ i ≤ n ∧ (∀ (k : Nat) (x y : EntV), k < i → l[k]? = some x → m[k]? = some y → x = y) ∧ Keeps nowhere w wr) (fun iv _ => n - (intOf iv).toNat)
    case atStart => exact ⟨0, rfl, Nat.zero_le _, fun k x y h => absurd h (Nat.not_lt_zero k), Keeps.refl _ _⟩
    case round =>
      obtain ⟨i, rfl, hi, hok, hk⟩ := hrel
      by_cases hlt : i < n
      · have hltI : (i : Int) < n := by omega
        have hi0 : (0 : Int) ≤ (i : Int) := by omega
        have hi1 : IntKind.i64.wrap ((i : Int) + 1) = i + 1 := IntWalk.i64_in _ (by omega)
        obtain ⟨x, hxx⟩ : ∃ x, l[i]? = some x := ⟨_, List.getElem?_eq_getElem (by rw [← Hn.out]; exact hlt)⟩
        obtain ⟨y, hyy⟩ : ∃ y, m[i]? = some y := ⟨_, List.getElem?_eq_getElem (by rw [← Hp.out]; exact hlt)⟩
        obtain ⟨b, o, hA, hb, hcells⟩ := Hx.out (by rw [← Hn.out]; omega)
        obtain ⟨b', o', hB, hb', hcells'⟩ := Hy.out (by rw [← Hp.out]; omega)
        obtain ⟨c0, c1⟩ := hcells wr hk i x hxx
        obtain ⟨d0, d1⟩ := hcells' wr hk i y hyy
        subst hA hB
        obtain ⟨x1, x2⟩ := x
        obtain ⟨y1, y2⟩ := y
        simp only at c0 c1 d0 d1
        have hnext : x1 = y1 → x2 = y2 → ∀ (k : Nat) (x y : EntV), k < i + 1 → l[k]? = some x → m[k]? = some y → x = y := by
          intro e1 e2 k u v hk' hu hv
          by_cases e : k = i
          · subst e
            rw [hxx] at hu
            rw [hyy] at hv
            injection hu with hu
            injection hv with hv
            rw [← hu, ← hv, e1, e2]
          · exact hok k u v (by omega) hu hv
        have hno : ¬ (x1 = y1 ∧ x2 = y2) → sameE l m = false := fun h => sameE_no hxx hyy (fun e => h (by injection e with e1 e2; exact ⟨e1, e2⟩))
        clear hok hcells hcells'
        by_cases e1 : x1 = y1
        · subst e1
          by_cases e2 : x2 = y2
          · subst e2
            have hok' := hnext rfl rfl
            clear hnext hno
            have Hok' := Lib.hid hok'
            have Hk := Lib.hid hk
            have Hxx := Lib.hid hxx
            have Hyy := Lib.hid hyy
            clear hok' hk hxx hyy
            go_wp2_with fail
            go_quiet (fail)
            go_wp2_with fail
            go_roundw
            case rel => exact ⟨i + 1, by simp, by omega, Hok'.out, Hk.out.drewN _⟩
            case measure => simp [intOf]; omega
          · have hf := hno (fun h => e2 h.2)
            have e2I : ((x2 : Int) == (y2 : Int)) = false := by rw [beq_eq_false_iff_ne]; exact_mod_cast e2
            clear hnext hno
            have Hf := Lib.hid hf
            have Hk := Lib.hid hk
            have Hxx := Lib.hid hxx
            have Hyy := Lib.hid hyy
            clear hf hk hxx hyy
            go_wp2_with fail
            go_quiet (fail)
            go_wp2_with fail
            go_ret
            exact ⟨by rw [Hf.out]; rfl, Hk.out.drewN _⟩
        · have hf := hno (fun h => e1 h.1)
          have e1S : (x1 == y1) = false := by rw [beq_eq_false_iff_ne]; exact e1
          clear hnext hno
          have Hf := Lib.hid hf
          have Hk := Lib.hid hk
          have Hxx := Lib.hid hxx
          have Hyy := Lib.hid hyy
          clear hf hk hxx hyy
          go_wp2_with fail
          go_quiet (fail)
          go_wp2_with fail
          go_ret
          exact ⟨by rw [Hf.out]; rfl, Hk.out.drewN _⟩
      · obtain rfl : i = n := by omega
        have hiI : ¬ (i : Int) < i := by omega
        have hf : sameE l m = true := sameE_yes (by rw [← Hn.out, ← Hp.out]) fun k x y hx hy => hok k x y (by rw [Hn.out]; exact (List.getElem?_eq_some_iff.1 hx).1) hx hy
        clear hok
        have Hf := Lib.hid hf
        have Hk := Lib.hid hk
        clear hf hk
        go_wp2_with fail
        go_ret
        exact ⟨by rw [Hf.out]; rfl, Hk.out⟩
  · have h60I : ((n : Int) == (p : Int)) = false := by rw [beq_eq_false_iff_ne]; omega
    have hf : sameE l m = false := sameE_len (by rw [← Hn.out, ← Hp.out]; exact h60)
    rw [hf]
    clear hf
    go_enter Tryd.func15, Tryd.ntmps15
    go_wp2_with fail
    go_ret
    exact ⟨rfl, Keeps.refl _ _⟩
end Go.Proofs.YtnlmdfbjmhcilaaDoor
/-
  entry: what the bytes of a list are (plain).
-/
namespace Go.Proofs.YtnlmdfbjmhcilaaDoor
open Go.RowKit Go.Proofs

/-- one entry: its inode's four bytes, its name, zeros up to 32 -/
def rowE (x : EntV) : List UInt8 := (nb 4 x.2 ++ x.1) ++ List.replicate (32 - (nb 4 x.2 ++ x.1).length) 0
def bytesE (l : List EntV) : List UInt8 := (l.map rowE).flatten
/-- the bytes of the first `k` -/
def bytesN (l : List EntV) (k : Nat) : List UInt8 := bytesE (l.take k)
theorem bytesN_zero (l : List EntV) : bytesN l 0 = [] := by simp [bytesN, bytesE]
theorem bytesN_all (l : List EntV) : bytesN l l.length = bytesE l := by rw [bytesN, List.take_length]
theorem bytesN_succ {l : List EntV} {i : Nat} {x : EntV} (h : l[i]? = some x) : bytesN l (i + 1) = bytesN l i ++ rowE x := by
  unfold bytesN bytesE
  rw [List.take_add_one, h]
  simp
/-- the row while zeros are put behind -/
def padE (r : List UInt8) (k : Nat) : List UInt8 := r ++ List.replicate k 0
theorem padE_zero (r : List UInt8) : padE r 0 = r := by simp [padE]
theorem padE_succ (r : List UInt8) (k : Nat) : padE r (k + 1) = padE r k ++ [0] := by
  unfold padE
  rw [List.replicate_succ', List.append_assoc]
theorem padE_length (r : List UInt8) (k : Nat) : (padE r k).length = r.length + k := by simp [padE]
theorem rowE_pad (x : EntV) : rowE x = padE (nb 4 x.2 ++ x.1) (32 - (nb 4 x.2 ++ x.1).length) := rfl
end Go.Proofs.YtnlmdfbjmhcilaaDoor
/-
  slices.Clone and slices.Clip at []byte: a copy in memory of the call's own; the same slice without spare room.
-/
namespace Go.Proofs.YtnlmdfbjmhcilaaDoor
open Go.RowKit

theorem infoU8 : (Tryd.prog.info? 5).map (fun i => (i.zero, i.size, i.bytes)) = some (some (.int .u8 0), 1, 1) := by kernel_rfl

/-- A slice of bytes that reads as `L`, in memory of the call's own. -/
def RetBytes (w : World) (L : List UInt8) : Ending → World → Prop := fun e w' =>
  ∃ v' g', e = .returned v' ∧ Rd w' v' g' (L.map bv) ∧ Above w.heap.size g' ∧ Keeps nowhere w w'

set_option maxHeartbeats 400000 in
theorem clone_nil (n c : Nat) (w : World) : Calls Tryd.prog 57 #[.slice none n c] w fun e w' => e = .returned (.slice none 0 0) ∧ w = w' := by
  have q22 := fun (w : World) (a : Option Addr) (n c n' c' : Nat) => Lib.run_eql_slice_nil (P := Tryd.prog) w 25 5 a n c n' c' Tryd.underlying25
  go_enter Tryd.func57, Tryd.ntmps57
  go_wp2
  go_ret
  exact ⟨rfl, rfl⟩

set_option maxHeartbeats 400000 in
theorem clone_some (a : Addr) (c : Nat) (L : List UInt8) (w : World) (hb : L.length ≤ 140737488351232)
    (hc : ∀ j u, (L.map bv)[j]? = some u → w.cell? (a.add j) = some u) (hlt : 0 < L.length → a.block < w.heap.size) :
    Calls Tryd.prog 57 #[.slice (some a) L.length c] w (RetBytes w L) := by
  have q22 := fun (w : World) (a : Option Addr) (n c n' c' : Nat) => Lib.run_eql_slice_nil (P := Tryd.prog) w 25 5 a n c n' c' Tryd.underlying25
  obtain ⟨i0, hi, hz0, hz1, hz2⟩ := info_parts infoU8
  have Hc := Lib.hid hc
  clear hc
  go_enter Tryd.func57, Tryd.ntmps57
  go_wp2_with (at_builtin; refine wpList_append_own _ rfl _ _ 25 rfl w.heap.size 5 i0 (.int .u8 0) 1 1 Tryd.underlying25 hi hz0 hz1 hz2 rfl (by decide) _ _ _ rfl (World.ownsRow_made w #[] 0 (Nat.le_refl _) (Nat.zero_le _) rfl) a L.length c (L.map bv) rfl ?qc1 ?qc2 ?qc3 ?qc4 ?qc5 ?qc6 ?_)
  case qc1 => simp
  case qc2 =>
    intro j u hj
    have hjn : j < L.length := by have := (List.getElem?_eq_some_iff.1 hj).1; simpa using this
    have := Hc.out j u hj
    rw [World.cell?_alloc_lt w _ _ (by rw [show (a.add j).block = a.block from by unfold Addr.add; split <;> rfl]; exact hlt (by omega))]
    exact this
  case qc3 => exact bv_one L
  case qc4 => unfold maxLen; omega
  case qc5 => omega
  case qc6 => simp
  intro v' w1 hown hgrow hnil
  go_wp2
  go_ret
  have hbel : Below w.heap.size w w1 := ((Below.refl _ w).alloc (Nat.le_refl _) _).grown hgrow (by simp) (by intro k hk; simp [Value.ownBlock] at hk; omega)
  exact ⟨v', v'.ownBlock, rfl, by simpa using Rd.of_own hown, fun b hb => (hown.lt b hb).1, Below.keeps hbel⟩

theorem clone_any (v : Value) (g : Option Nat) (L : List UInt8) (w : World) (hr : Rd w v g (L.map bv)) (hb : L.length ≤ 140737488351232) :
    Calls Tryd.prog 57 #[v] w (RetBytes w L) := by
  rcases hr with ⟨rfl, _, hL⟩ | ⟨a, cap, rfl, hu, hg, h1, h2, hc⟩
  · have : L = [] := by simpa using hL
    subst this
    refine (clone_nil 0 0 w).mono ?_
    rintro e w' ⟨rfl, rfl⟩
    exact ⟨_, none, rfl, .inl ⟨rfl, rfl, rfl⟩, Above.none _, Keeps.refl _ _⟩
  · rw [List.length_map] at h1 ⊢
    exact clone_some _ cap L w hb hc (fun hp => hu _ (hg (by simpa using hp)).1)

set_option maxHeartbeats 400000 in
theorem clip_any (v : Value) (g : Option Nat) (xs : List Value) (w : World) (hr : Rd w v g xs) :
    Calls Tryd.prog 56 #[v] w fun e w' => (∃ v', e = .returned v' ∧ Rd w v' g xs) ∧ w = w' := by
  have hm := hr.le
  unfold maxLen at hm
  rcases hr with ⟨rfl, rfl, rfl⟩ | ⟨a, cap, rfl, hb, hg, h1, h2, h3⟩
  · go_enter Tryd.func56, Tryd.ntmps56
    go_wp2
    go_ret
    exact ⟨⟨_, rfl, .inl ⟨rfl, rfl, rfl⟩⟩, rfl⟩
  · have hl : xs.length ≤ maxLen := by omega
    obtain ⟨n, hn⟩ : ∃ n, n = xs.length := ⟨_, rfl⟩
    rw [← hn] at h1 hm
    have H3 := Lib.hid h3
    have Hb := Lib.hid hb
    have Hg := Lib.hid hg
    clear h3 hb hg
    rw [← hn]
    have Hn := Lib.hid hn
    clear hn
    go_enter Tryd.func56, Tryd.ntmps56
    go_wp2
    go_ret
    refine ⟨⟨_, rfl, ?_⟩, rfl⟩
    have hn := Hn.out
    subst hn
    exact .inr ⟨a, xs.length, by simp, Hb.out, Hg.out, Nat.le_refl _, hl, H3.out⟩
end Go.Proofs.YtnlmdfbjmhcilaaDoor
/-
  append onto a row of the call's own, from any slice that reads.
-/
namespace Go.Proofs.YtnlmdfbjmhcilaaDoor
open Go.RowKit

section
variable {P : Program} (w : World)
theorem run_append_rd (base : Nat) (t ty e : TypeId) (i : TypeInfo) (z : Value) (bytes : Nat) (ht : P.underlying t = some (.slice e)) (hi : P.info? e = some i) (hz : i.zero = some z)
    (hsize : i.size = 1) (hby : i.bytes = bytes) (hzs : z.cells.size = 1)
    (v : Value) (n : Nat) (xs : List Value) (hown : w.ownsRow base e 1 v n xs)
    (vx : Value) (gx : Option Nat) (news : List Value) (hr : Rd w vx gx news) (h1 : ∀ u ∈ news, u.oneCell' = true)
    (h63 : n + news.length ≤ maxLen) (hbytes : (n + news.length) * bytes ≤ 140737488355328) (hbase : base ≤ w.heap.size) :
    ∃ v' w', (Builtin.append_ #[t, t] ty #[v, vx]).run P w = .ok v' w' ∧ w'.ownsRow base e 1 v' (n + news.length) (xs ++ news) ∧ w.grownBy w' v.ownBlock ∧ From v.ownBlock w.heap.size v'.ownBlock ∧ w.heap.size ≤ w'.heap.size := by
  rcases hr with ⟨rfl, _, rfl⟩ | ⟨a, cap, rfl, _, _, hl, hm, hc⟩
  · refine ⟨v, w, run_append_owned_none (P := P) (w := w) base t ty e i 1 ht hi v n xs hown, by simpa using hown, World.grownBy.refl w _, From.refl _ _, Nat.le_refl _⟩
  · obtain ⟨v', w', hrun, h2, h3, _, h5⟩ := run_append_own_at (P := P) w base t ty e i z 1 bytes ht hi hz hsize hby hzs (by decide) v n xs hown a news.length cap news (by simp)
      hc h1 h63 hbytes hbase
    exact ⟨v', w', hrun, h2, h3, fun b hb => h5.elim (fun e => .inl (by rw [← e, hb])) (fun e => .inr (by rw [hb] at e; injection e with e; omega)), h3.size⟩

theorem wp_append_rd {o : Oper} {a : Act} {K : Act → World → Prop} {Q : Exit → Act → World → Prop} (s x : Operand) (t : TypeId)
    (ho : o.op = .call { callee := .builtin .append, args := #[s, x], argTypes := #[t, t] })
    (base : Nat) (e : TypeId) (i : TypeInfo) (z : Value) (bytes : Nat) (ht : P.underlying t = some (.slice e)) (hi : P.info? e = some i) (hz : i.zero = some z)
    (hsize : i.size = 1) (hby : i.bytes = bytes) (hzs : z.cells.size = 1)
    (v : Value) (n : Nat) (xs : List Value) (hs : a.eval s = v) (hown : w.ownsRow base e 1 v n xs)
    (vx : Value) (gx : Option Nat) (news : List Value) (hx : a.eval x = vx) (hr : Rd w vx gx news) (h1 : ∀ u ∈ news, u.oneCell' = true)
    (h63 : n + news.length ≤ maxLen) (hbytes : (n + news.length) * bytes ≤ 140737488355328) (hbase : base ≤ w.heap.size)
    (h : ∀ v' w', w'.ownsRow base e 1 v' (n + news.length) (xs ++ news) → w.grownBy w' v.ownBlock → From v.ownBlock w.heap.size v'.ownBlock → K (a.put o.dst v') w') : o.wp P a w K Q := by
  obtain ⟨v', w', hrun, h2, h3, h4, _⟩ := run_append_rd (P := P) w base t o.type e i z bytes ht hi hz hsize hby hzs v n xs hown vx gx news hr h1 h63 hbytes hbase
  unfold Oper.wp execOp
  simp only [ho, resolve, invoke, builtin, Sem.run_bind, Sem.run_pure, Result.andThen_ok, List.map_toArray, List.map_cons, List.map_nil, hs, hx, hrun]
  exact h v' w' h2 h3 h4

theorem wpList_append_rd {ops : Array Oper} {rest : List Oper} {o : Oper} {a : Act} {Q : Exit → Act → World → Prop} (hgd : o.guard = none) (s x : Operand) (t : TypeId)
    (ho : o.op = .call { callee := .builtin .append, args := #[s, x], argTypes := #[t, t] })
    (base : Nat) (e : TypeId) (i : TypeInfo) (z : Value) (bytes : Nat) (ht : P.underlying t = some (.slice e)) (hi : P.info? e = some i) (hz : i.zero = some z)
    (hsize : i.size = 1) (hby : i.bytes = bytes) (hzs : z.cells.size = 1)
    (v : Value) (n : Nat) (xs : List Value) (hs : a.eval s = v) (hown : w.ownsRow base e 1 v n xs)
    (vx : Value) (gx : Option Nat) (news : List Value) (hx : a.eval x = vx) (hr : Rd w vx gx news) (h1 : ∀ u ∈ news, u.oneCell' = true)
    (h63 : n + news.length ≤ maxLen) (hbytes : (n + news.length) * bytes ≤ 140737488355328) (hbase : base ≤ w.heap.size)
    (h : ∀ v' w', w'.ownsRow base e 1 v' (n + news.length) (xs ++ news) → w.grownBy w' v.ownBlock → From v.ownBlock w.heap.size v'.ownBlock → wpList P ops Q rest (a.put o.dst v') w') : wpList P ops Q (o :: rest) a w :=
  wpList_plain hgd fun _ hK => wp_append_rd w s x t ho base e i z bytes ht hi hz hsize hby hzs v n xs hs hown vx gx news hx hr h1 h63 hbytes hbase fun v' w' h2 h3 h4 => hK _ _ (h v' w' h2 h3 h4)

theorem step_append_rd {ops : Array Oper} {o : Oper} {a : Act} {K : Act → World → Prop} {Q : Exit → Act → World → Prop} {E : Prop} (hgd : o.guard = none) (s x : Operand) (t : TypeId)
    (ho : o.op = .call { callee := .builtin .append, args := #[s, x], argTypes := #[t, t] })
    (base : Nat) (e : TypeId) (i : TypeInfo) (z : Value) (bytes : Nat) (ht : P.underlying t = some (.slice e)) (hi : P.info? e = some i) (hz : i.zero = some z)
    (hsize : i.size = 1) (hby : i.bytes = bytes) (hzs : z.cells.size = 1)
    (v : Value) (n : Nat) (xs : List Value) (hs : a.eval s = v) (hown : w.ownsRow base e 1 v n xs)
    (vx : Value) (gx : Option Nat) (news : List Value) (hx : a.eval x = vx) (hr : Rd w vx gx news) (h1 : ∀ u ∈ news, u.oneCell' = true)
    (h63 : n + news.length ≤ maxLen) (hbytes : (n + news.length) * bytes ≤ 140737488355328) (hbase : base ≤ w.heap.size)
    (h : ∀ v' w', w'.ownsRow base e 1 v' (n + news.length) (xs ++ news) → w.grownBy w' v.ownBlock → From v.ownBlock w.heap.size v'.ownBlock → K (a.put o.dst v') w') :
    if Region.wanted o (yielded ops a.tmps) = true then Oper.wp P o a w K Q else E := by
  have hw : Region.wanted o (yielded ops a.tmps) = true := by simp [Region.wanted, hgd]
  rw [if_pos hw]
  exact wp_append_rd w s x t ho base e i z bytes ht hi hz hsize hby hzs v n xs hs hown vx gx news hx hr h1 h63 hbytes hbase h
end

section
variable {w w1 : World} {v v' : Value} {S : Nat → Prop}
/-- what an append keeps -/
theorem Keeps.append {w0 : World} (h : Keeps S w0 w) (hg : w.grownBy w1 v.ownBlock) (hv : ∀ b, v.ownBlock = some b → b < w0.heap.size → S b) : Keeps S w0 w1 := h.grown hg hv
theorem keeps_append (hg : w.grownBy w1 v.ownBlock) : Keeps (fun b => v.ownBlock = some b) w w1 := (Keeps.refl _ w).grown hg (fun _ h _ => h)
end
end Go.Proofs.YtnlmdfbjmhcilaaDoor
/-
  append of bytes: onto a row of bytes of the call's own, from any slice that reads as bytes.
-/
namespace Go.Proofs.YtnlmdfbjmhcilaaDoor
open Go.RowKit

/-- The value owns a row that reads as the bytes `L`. -/
def OwnB (w : World) (v : Value) (L : List UInt8) : Prop := w.ownsRow 0 5 1 v L.length (L.map bv)
theorem OwnB.rd {w : World} {v : Value} {L : List UInt8} (h : OwnB w v L) : Rd w v v.ownBlock (L.map bv) := Rd.of_own h
theorem OwnB.nil (w : World) : OwnB w (.slice none 0 0) [] := World.ownsRow_nil _ _ _ _
theorem OwnB.empty (w : World) : OwnB (w.alloc (.cells #[] 5)) (.slice (some ⟨w.heap.size, 0, none⟩) 0 0) [] := World.ownsRow_made w #[] 0 (Nat.zero_le _) (Nat.zero_le _) rfl
theorem OwnB.keep {w w' : World} {v : Value} {L : List UInt8} {S : Nat → Prop} (h : OwnB w v L) (hk : Keeps S w w') (hs : ∀ b, v.ownBlock = some b → ¬ S b) : OwnB w' v L := own_keep h hk hs
theorem OwnB.lt {w : World} {v : Value} {L : List UInt8} (h : OwnB w v L) : Under w.heap.size v.ownBlock := fun b hb => (World.ownsRow.lt h b hb).2
/-- its form, for a store -/
theorem OwnB.form {w : World} {v : Value} {L : List UInt8} (h : OwnB w v L) : v = .slice none 0 0 ∨ ∃ g cap, v = .slice (some ⟨g, 0, none⟩) L.length cap := by
  rcases h.2 with ⟨h, _⟩ | ⟨g, cap, cur, h, _⟩
  · exact .inl h
  · exact .inr ⟨g, cap, h⟩
theorem OwnB.form' {w : World} {v : Value} {L : List UInt8} (h : OwnB w v L) : ∃ A c, v = .slice A L.length c ∧ L.length ≤ c ∧ c ≤ maxLen := by
  have := (OwnB.rd h).form
  rwa [List.length_map] at this
theorem bv_map_inj {L M : List UInt8} (h : L.map bv = M.map bv) : L = M := by
  induction L generalizing M with
  | nil => cases M with
    | nil => rfl
    | cons b M => simp at h
  | cons a L ih =>
    cases M with
    | nil => simp at h
    | cons b M =>
      simp only [List.map_cons, List.cons.injEq] at h
      obtain ⟨h1, h2⟩ := h
      rw [ih h2]
      have : (a.toNat : Int) = b.toNat := by unfold bv at h1; injection h1
      have hab : a = b := UInt8.toNat_inj.1 (by omega)
      rw [hab]

section
variable {ops : Array Oper} {rest : List Oper} {o : Oper} {a : Act} {Q : Exit → Act → World → Prop} {w : World}
theorem own_bytes_app {w' : World} {v' : Value} {L M : List UInt8} (h : w'.ownsRow 0 5 1 v' (L.length + (M.map bv).length) (L.map bv ++ M.map bv)) : OwnB w' v' (L ++ M) := by
  unfold OwnB
  simpa using h

theorem wp_append_bytes {K : Act → World → Prop} (s x : Operand) (ho : o.op = .call { callee := .builtin .append, args := #[s, x], argTypes := #[25, 25] })
    (v : Value) (L : List UInt8) (hs : a.eval s = v) (hown : OwnB w v L) (vx : Value) (gx : Option Nat) (M : List UInt8) (hx : a.eval x = vx) (hr : Rd w vx gx (M.map bv)) (hb : L.length + M.length ≤ 1099511627776)
    (h : ∀ v' w', OwnB w' v' (L ++ M) → Keeps (fun b => v.ownBlock = some b) w w' → From v.ownBlock w.heap.size v'.ownBlock → K (a.put o.dst v') w') : o.wp Tryd.prog a w K Q := by
  obtain ⟨i0, hi, hz0, hz1, hz2⟩ := info_parts infoU8
  exact wp_append_rd w s x _ ho 0 5 i0 _ 1 Tryd.underlying25 hi hz0 hz1 hz2 rfl v L.length (L.map bv) hs hown vx gx (M.map bv) hx hr (bv_one M) (by simp [maxLen]; omega) (by simp; omega) (Nat.zero_le _)
    fun v' w' h1 h2 h3 => h v' w' (own_bytes_app h1) (keeps_append h2) h3
theorem wpList_append_bytes (hgd : o.guard = none) (s x : Operand) (ho : o.op = .call { callee := .builtin .append, args := #[s, x], argTypes := #[25, 25] })
    (v : Value) (L : List UInt8) (hs : a.eval s = v) (hown : OwnB w v L) (vx : Value) (gx : Option Nat) (M : List UInt8) (hx : a.eval x = vx) (hr : Rd w vx gx (M.map bv)) (hb : L.length + M.length ≤ 1099511627776)
    (h : ∀ v' w', OwnB w' v' (L ++ M) → Keeps (fun b => v.ownBlock = some b) w w' → From v.ownBlock w.heap.size v'.ownBlock → wpList Tryd.prog ops Q rest (a.put o.dst v') w') : wpList Tryd.prog ops Q (o :: rest) a w :=
  wpList_plain hgd fun _ hK => wp_append_bytes s x ho v L hs hown vx gx M hx hr hb fun v' w' h2 h3 h4 => hK _ _ (h v' w' h2 h3 h4)
theorem step_append_bytes {K : Act → World → Prop} {E : Prop} (hgd : o.guard = none) (s x : Operand) (ho : o.op = .call { callee := .builtin .append, args := #[s, x], argTypes := #[25, 25] })
    (v : Value) (L : List UInt8) (hs : a.eval s = v) (hown : OwnB w v L) (vx : Value) (gx : Option Nat) (M : List UInt8) (hx : a.eval x = vx) (hr : Rd w vx gx (M.map bv)) (hb : L.length + M.length ≤ 1099511627776)
    (h : ∀ v' w', OwnB w' v' (L ++ M) → Keeps (fun b => v.ownBlock = some b) w w' → From v.ownBlock w.heap.size v'.ownBlock → K (a.put o.dst v') w') :
    if Region.wanted o (yielded ops a.tmps) = true then Oper.wp Tryd.prog o a w K Q else E := by
  have hw : Region.wanted o (yielded ops a.tmps) = true := by simp [Region.wanted, hgd]
  rw [if_pos hw]
  exact wp_append_bytes s x ho v L hs hown vx gx M hx hr hb h
end
end Go.Proofs.YtnlmdfbjmhcilaaDoor
/-
  The reference Num, alone (the first part of RefNum)
-/
namespace Go.Proofs.YtnlmdfbjmhcilaaDoor
open Go.RowKit

/-- A row of bytes of the call's own. -/
def RetOwnB (w : World) (L : List UInt8) : Ending → World → Prop := fun e w' =>
  ∃ v', e = .returned v' ∧ OwnB w' v' L ∧ Above w.heap.size v'.ownBlock ∧ Keeps nowhere w w'

set_option maxHeartbeats 400000 in
theorem ref_num_no (n v : Int) (w : World) (hn : n < 1 ∨ 8 < n) :
    Calls Tryd.prog 32 #[.int .i64 n, .int .u64 v] w fun e w' => e = .returned (.slice none 0 0) ∧ w = w' := by
  rcases hn with h | h
  · go_enter Tryd.func32, Tryd.ntmps32
    go_wp2
    go_ret
    exact ⟨rfl, rfl⟩
  · have h' : ¬ n < 1 := by omega
    go_enter Tryd.func32, Tryd.ntmps32
    go_wp2
    go_ret
    exact ⟨rfl, rfl⟩

set_option maxHeartbeats 800000 in
theorem ref_num_yes (n v : Nat) (w : World) (h1 : 1 ≤ n) (h8 : n ≤ 8) (hv : v < 18446744073709551616) :
    Calls Tryd.prog 32 #[.int .i64 n, .int .u64 v] w (RetOwnB w (nb n v)) := by
  have h1' : ¬ (n : Int) < 1 := by omega
  have h8' : ¬ (8 : Int) < n := by omega
  have Hv := Lib.hid hv
  clear hv
  go_enter Tryd.func32, Tryd.ntmps32
  go_wp2_with fail
  go_loopw [5, 6] (fun o i wr => ∃ k : Nat, k ≤ n ∧ i = .int .i64 k ∧ OwnB wr o (nb k v) ∧ Above w.heap.size o.ownBlock ∧ Keeps nowhere w wr) (fun _ i _ => n - (intOf i).toNat)
  case atStart => exact ⟨0, Nat.zero_le _, rfl, OwnB.nil _, Above.none _, Keeps.refl _ _⟩
  case round =>
    obtain ⟨k, hk, rfl, hown, hab, hkp⟩ := hrel
    by_cases hlt : k < n
    · have hw8 : IntKind.i64.wrap (8 * (k : Int)) = 8 * k := IntWalk.i64_in _ (by omega)
      have h80 : (0 : Int) ≤ 8 * k := by omega
      have hlen : (nb k v).length = k := nb_len k v
      have Hown := Lib.hid hown
      have Hab := Lib.hid hab
      have Hkp := Lib.hid hkp
      have Hlen := Lib.hid hlen
      clear hown hab hkp hlen
      go_wp2_with (at_builtin; go_must (refine wpList_append_bytes rfl (.tmp 19) (.tmp 26) rfl u5 (nb k v) rfl (Hown.out.keep ((Keeps.refl nowhere wr).alloc _) (fun _ _ h => h)) _ (some wr.heap.size) [UInt8.ofNat (v / 256 ^ k)] rfl ?hr ?hl ?_))
      case hr => show Rd _ (.slice (some ⟨wr.heap.size, 0, none⟩) 1 1) _ _; rw [byte_of']; exact Rd.full (heap_alloc_new wr (.cells #[bv (UInt8.ofNat (v / 256 ^ k))] 5)) (by simp [maxLen])
      case hl => rw [Hlen.out]; simp; omega
      intro v1 w1 hown1 hk1 hf1
      have hs := Hkp.out.size
      have hab1 : Above w.heap.size v1.ownBlock := Hab.out.of_from hf1 (by omega)
      have hkp1 : Keeps nowhere w w1 := (Hkp.out.alloc _).trans hk1 (fun b hb h => absurd (Hab.out b h) (by omega))
      have hsn := nb_succ k v
      have Hown1 := Lib.hid hown1
      have Hab1 := Lib.hid hab1
      have Hkp1 := Lib.hid hkp1
      have Hsn := Lib.hid hsn
      clear hown1 hab1 hkp1 hsn
      clear hk1 hf1
      go_wp2_with fail
      go_roundw
      case rel => exact ⟨k + 1, by omega, by go_num, by rw [Hsn.out]; exact Hown1.out, Hab1.out, Hkp1.out⟩
      case measure => simp [intOf]; omega
    · have Hown := Lib.hid hown
      have Hab := Lib.hid hab
      have Hkp := Lib.hid hkp
      clear hown hab hkp
      obtain rfl : k = n := by omega
      go_wp2_with fail
      go_ret
      exact ⟨_, rfl, Hown.out, Hab.out, Hkp.out⟩

end Go.Proofs.YtnlmdfbjmhcilaaDoor
/-
  append of a string's bytes: onto a row of bytes of the call's own.
-/
namespace Go.Proofs.YtnlmdfbjmhcilaaDoor
open Go.RowKit

theorem OwnB.base {w : World} {v : Value} {L : List UInt8} {B : Nat} (h : OwnB w v L) (ha : Above B v.ownBlock) : w.ownsRow B 5 1 v L.length (L.map bv) := by
  refine ⟨h.1, h.2.imp (fun h => h) ?_⟩
  rintro ⟨g, cap, cur, rfl, -, hr⟩
  exact ⟨g, cap, cur, rfl, ha g rfl, hr⟩
theorem OwnB.unbase {w : World} {v : Value} {L : List UInt8} {B n : Nat} (h : w.ownsRow B 5 1 v n (L.map bv)) (hn : n = L.length) : OwnB w v L ∧ Above B v.ownBlock := by
  subst hn
  refine ⟨⟨h.1, h.2.imp (fun h => h) ?_⟩, ?_⟩
  · rintro ⟨g, cap, cur, rfl, -, hr⟩
    exact ⟨g, cap, cur, rfl, Nat.zero_le _, hr⟩
  · rcases h.2 with ⟨rfl, -⟩ | ⟨g, cap, cur, rfl, hb, -⟩
    · exact fun b hb => by cases hb
    · intro b hb'
      have : g = b := by simpa [Value.ownBlock] using hb'
      subst this
      exact hb
theorem strCells_of (M : List UInt8) : Lib.strCells (strOf M) = M.map bv := by simp [Lib.strCells, strOf, bv]
theorem strOf_size' (M : List UInt8) : (strOf M).size = M.length := by simp [strOf, ByteArray.size]
section
variable {ops : Array Oper} {rest : List Oper} {o : Oper} {a : Act} {Q : Exit → Act → World → Prop} {w : World}
theorem wpList_append_str (hgd : o.guard = none) (s x : Operand) (ho : o.op = .call { callee := .builtin .append, args := #[s, x], argTypes := #[25, 9] })
    (v : Value) (L : List UInt8) (hs : a.eval s = v) (hown : OwnB w v L) (B : Nat) (ha : Above B v.ownBlock) (hB : B ≤ w.heap.size) (M : List UInt8) (hx : a.eval x = .string (strOf M)) (hb : L.length + M.length ≤ 1099511627776)
    (h : ∀ v' w', OwnB w' v' (L ++ M) → Above B v'.ownBlock → Keeps (fun b => v.ownBlock = some b) w w' → wpList Tryd.prog ops Q rest (a.put o.dst v') w') : wpList Tryd.prog ops Q (o :: rest) a w := by
  obtain ⟨i0, hi, hz0, hz1, hz2⟩ := info_parts infoU8
  have hM := strOf_size' M
  refine Lib.wpList_append_own_string w hgd s x _ _ ho B 5 i0 Tryd.underlying25 Tryd.underlying9 hi hz0 hz1 hz2 v L.length (L.map bv) hs (hown.base ha) (strOf M) hx (by simp [maxLen, hM]; omega) (by rw [hM]; omega) hB fun v' w' h1 h2 _ => ?_
  rw [strCells_of, ← List.map_append, hM] at h1
  obtain ⟨k1, k2⟩ := OwnB.unbase h1 (by simp)
  exact h v' w' k1 k2 (keeps_append h2)
end
end Go.Proofs.YtnlmdfbjmhcilaaDoor
/-
  entry: the bytes of a list, the law's own.
-/
namespace Go.Proofs.YtnlmdfbjmhcilaaDoor
open Go.RowKit Go.Proofs
attribute [local go_sem] strOf_size strOf_get strOf_toList

/-- entries that a machine holds: names of ten thousand bytes at most, inodes of four bytes -/
def OkE (l : List EntV) : Prop := ∀ (i : Nat) (x : EntV), l[i]? = some x → x.1.length ≤ 10000 ∧ x.2 < 4294967296
theorem rowE_len (x : EntV) (h : x.1.length ≤ 10000) : (rowE x).length ≤ 10036 := by
  unfold rowE
  simp [nb_len]
  omega
theorem bytesN_len {l : List EntV} (h : OkE l) : ∀ i : Nat, i ≤ l.length → (bytesN l i).length ≤ i * 10036
  | 0, _ => by rw [bytesN_zero]; simp
  | i + 1, hi => by
    have hx : l[i]? = some l[i] := List.getElem?_eq_getElem (by omega)
    have h1 := bytesN_len h i (by omega)
    have h2 := rowE_len l[i] (h i _ hx).1
    rw [bytesN_succ hx, List.length_append]
    omega
def slLen : Value → Nat
  | .slice _ n _ => n
  | _ => 0
theorem OwnB.slLen {w : World} {v : Value} {L : List UInt8} (h : OwnB w v L) : slLen v = L.length := by
  obtain ⟨A, c, rfl, -, -⟩ := h.form'
  rfl
set_option maxRecDepth 20000 in
set_option maxHeartbeats 8000000 in
theorem bytes_any (A : Option Addr) (c : Nat) (g : Option Nat) (l : List EntV) (w : World) (hr : recE.Rd w (.slice A l.length c) g l) (hl : l.length ≤ 10000) (hok : OkE l) :
    Calls Tryd.prog 14 #[.slice A l.length c] w (RetOwnB w (bytesE l)) := by
  obtain ⟨n, hn⟩ : ∃ n, n = l.length := ⟨_, rfl⟩
  have hx := fun hp => rdE_cells hr hp
  rw [← hn] at hl ⊢
  have Hr := Lib.hid hr
  have Hn := Lib.hid hn
  have Hx := Lib.hid hx
  have Hok := Lib.hid hok
  clear hr hn hx hok
  go_enter Tryd.func14, Tryd.ntmps14
  go_wp2_with fail
  go_loopw [3, 4] (fun ov iv wr => ∃ i : Nat, iv = .int .i64 i ∧ i ≤ n ∧ OwnB wr ov (bytesN l i) ∧ Above w.heap.size ov.ownBlock ∧ Keeps nowhere w wr) (fun _ iv _ => n - (intOf iv).toNat)
  case atStart => exact ⟨0, rfl, Nat.zero_le _, by rw [bytesN_zero]; exact OwnB.nil _, Above.none _, Keeps.refl _ _⟩
  case round =>
    obtain ⟨i, rfl, hi, hown, hab, hk⟩ := hrel
    obtain ⟨W0, hW0⟩ : ∃ W0, W0 = wr := ⟨_, rfl⟩
    subst hW0
    by_cases hlt : i < n
    · have hltI : (i : Int) < n := by omega
      have hi0 : (0 : Int) ≤ (i : Int) := by omega
      have hi1 : IntKind.i64.wrap ((i : Int) + 1) = i + 1 := IntWalk.i64_in _ (by omega)
      obtain ⟨x, hxx⟩ : ∃ x, l[i]? = some x := ⟨_, List.getElem?_eq_getElem (by rw [← Hn.out]; exact hlt)⟩
      obtain ⟨b, o, hA, hb, hcells⟩ := Hx.out (by rw [← Hn.out]; omega)
      obtain ⟨c0, c1⟩ := hcells W0 hk i x hxx
      subst hA
      have hx4 := (Hok.out i x hxx).2
      have hx10 := (Hok.out i x hxx).1
      have hu : IntKind.u64.wrap (x.2 : Int) = x.2 := by rw [IntKind.wrap_u64]; omega
      have q0 : ∀ w', Keeps nowhere W0.drew w' → w'.cell? ⟨b, o + i * 2, none⟩ = some (.string (strOf x.1)) := fun w' e => (hcells w' (hk.drew.more e) i x hxx).1
      have q1 : ∀ w', Keeps nowhere W0.drew w' → w'.cell? ⟨b, o + i * 2 + 1, none⟩ = some (.int .u32 x.2) := fun w' e => (hcells w' (hk.drew.more e) i x hxx).2
      have hlen := bytesN_len Hok.out i (by rw [← Hn.out]; exact hi)
      clear hcells c0 c1
      have Hown := Lib.hid hown
      have Hab := Lib.hid hab
      have Hk := Lib.hid hk
      have Hxx := Lib.hid hxx
      have Hlen := Lib.hid hlen
      clear hown hab hk hxx hlen
      go_wp2_with fail
      refine wp_region_script [0, 1, 2, 3, 4, 5, 7, 8, 9, 10, 11] [4, 11] [.ps [0, 1, 2], .ps [3], .fs [4], .ps [5, 7, 8], .ps [9, 10], .fs [11], .es [6] true, .es [12, 13] false] (Keeps nowhere W0.drew) rfl (by kernel_rfl) ?_
      refine wpS_ps rfl fun K hK => ?_
      simp only [List.map_cons, List.map_nil, Option.getD_some, List.getElem?_toArray, List.getElem?_cons_zero, List.getElem?_cons_succ]
      iterate 3 (first | (apply quietO_cons _ rfl; (intro w' _; go_simp; rfl)) | apply quietO_skip rfl)
      refine hK _ ?_
      clear hK K
      simp only [Act.put, List.setIfInBounds_toArray, List.set_cons_zero, List.set_cons_succ]
      refine wpS_ps rfl fun K hK => ?_
      simp only [List.map_cons, List.map_nil, Option.getD_some, List.getElem?_toArray, List.getElem?_cons_zero, List.getElem?_cons_succ]
      iterate 1 (first | (apply quietO_cons _ rfl; (intro w' _; go_simp; rfl)) | apply quietO_skip rfl)
      refine hK _ ?_
      clear hK K
      simp only [Act.put, List.setIfInBounds_toArray, List.set_cons_zero, List.set_cons_succ]
      refine wpS_fs rfl (Keeps.refl _ _) fun K hK => ?_
      simp only [List.map_cons, List.map_nil, Option.getD_some, List.getElem?_toArray, List.getElem?_cons_zero, List.getElem?_cons_succ]
      iterate 1 (first | (apply quietO_cons _ rfl; (intro w' hs; have c_0 := q1 w' hs; go_simp; rfl)) | apply quietO_skip rfl)
      refine hK _ ?_
      clear hK K
      simp only [Act.put, List.setIfInBounds_toArray, List.set_cons_zero, List.set_cons_succ]
      refine wpS_ps rfl fun K hK => ?_
      simp only [List.map_cons, List.map_nil, Option.getD_some, List.getElem?_toArray, List.getElem?_cons_zero, List.getElem?_cons_succ]
      iterate 3 (first | (apply quietO_cons _ rfl; (intro w' _; go_simp; rfl)) | apply quietO_skip rfl)
      refine hK _ ?_
      clear hK K
      simp only [Act.put, List.setIfInBounds_toArray, List.set_cons_zero, List.set_cons_succ]
      refine wpS_ps rfl fun K hK => ?_
      simp only [List.map_cons, List.map_nil, Option.getD_some, List.getElem?_toArray, List.getElem?_cons_zero, List.getElem?_cons_succ]
      iterate 2 (first | (apply quietO_cons _ rfl; (intro w' _; go_simp; rfl)) | apply quietO_skip rfl)
      refine hK _ ?_
      clear hK K
      simp only [Act.put, List.setIfInBounds_toArray, List.set_cons_zero, List.set_cons_succ]
      refine wpS_fs rfl (Keeps.refl _ _) fun K hK => ?_
      simp only [List.map_cons, List.map_nil, Option.getD_some, List.getElem?_toArray, List.getElem?_cons_zero, List.getElem?_cons_succ]
      iterate 1 (first | (apply quietO_cons _ rfl; (intro w' hs; have c_0 := q0 w' hs; go_simp; rfl)) | apply quietO_skip rfl)
      refine hK _ ?_
      clear hK K
      simp only [Act.put, List.setIfInBounds_toArray, List.set_cons_zero, List.set_cons_succ]
      clear q0 q1
      refine wpS_es rfl fun K hK => ?_
      have HK := Lib.hid hK
      clear hK
      simp only [List.map_cons, List.map_nil, Option.getD_some, List.getElem?_toArray, List.getElem?_cons_zero, List.getElem?_cons_succ]
      go_wp2_with fail
      refine (ref_num_yes 4 _ _ (by omega) (by omega) (by omega)).mono ?_
      rintro e w1 ⟨v1, rfl, ho1, ha1, hk1⟩
      have Ho1 := Lib.hid ho1
      have Ha1 := Lib.hid ha1
      have Hk1 := Lib.hid hk1
      clear ho1 ha1 hk1
      go_wp2_with fail
      refine HK.out _ _ (fun _ => Hk1.out) ?_
      clear HK K
      refine wpS_es rfl fun K hK => ?_
      have HK := Lib.hid hK
      clear hK
      simp only [List.map_cons, List.map_nil, Option.getD_some, List.getElem?_toArray, List.getElem?_cons_zero, List.getElem?_cons_succ]
      have hB : W0.heap.size ≤ w1.heap.size := Hk1.out.size
      have hln : (nb 4 x.2).length = 4 := nb_len 4 _
      go_wp2_with (at_builtin; go_must (refine wpList_append_str rfl (.tmp 18) (.tmp 23) rfl v1 (nb 4 x.2) rfl Ho1.out W0.heap.size Ha1.out hB x.1 rfl (by rw [hln]; omega) ?_))
      intro v2 w2 ho2 ha2 hk2
      have hk12 : Keeps nowhere W0 w2 := (((Keeps.refl nowhere W0).drew).more Hk1.out).trans hk2 (fun b hb e => by have := Ha1.out b e; simp at this; omega)
      clear hk2 hB
      obtain ⟨r, hr0⟩ : ∃ r, r = nb 4 x.2 ++ x.1 := ⟨_, rfl⟩
      have hrl : r.length = 4 + x.1.length := by rw [hr0, List.length_append, hln]
      rw [← hr0] at ho2
      have Hr0 := Lib.hid hr0
      have Hrl := Lib.hid hrl
      have Hln := Lib.hid hln
      have Ho2 := Lib.hid ho2
      have Ha2 := Lib.hid ha2
      have Hk12 := Lib.hid hk12
      clear hr0 hrl hln ho2 ha2 hk12
      go_wp2_with fail
      refine HK.out _ _ (fun h => by cases h) ?_
      clear HK K
      refine wpS_nil ?_
      go_wp2_with fail
      obtain ⟨K, hK⟩ : ∃ K, K = 32 - r.length := ⟨_, rfl⟩
      have HK := Lib.hid hK
      clear hK
      go_loopw [5] (fun bv wr => ∃ k : Nat, k ≤ K ∧ OwnB wr bv (padE r k) ∧ Above W0.heap.size bv.ownBlock ∧ Keeps nowhere W0 wr) (fun bv _ => 32 - slLen bv)
      case atStart => exact ⟨0, Nat.zero_le _, by rw [padE_zero]; exact Ho2.out, Ha2.out, Hk12.out⟩
      case round =>
        obtain ⟨k, hkK, hown3, hab3, hk3⟩ := hrel
        have hpl := padE_length r k
        obtain ⟨A5, c5, rfl, -, -⟩ := hown3.form'
        obtain ⟨m, hm⟩ : ∃ m, m = (padE r k).length := ⟨_, rfl⟩
        rw [← hm] at hown3 hab3 ⊢
        by_cases hlt2 : k < K
        · have hm32 : (m : Int) < 32 := by have := HK.out; omega
          have hr1 : Rd (wr.alloc (.cells #[bv 0] 5)) (.slice (some ⟨wr.heap.size, 0, none⟩) 1 1) (some wr.heap.size) ([(0 : UInt8)].map bv) := Rd.full (heap_alloc_new wr (.cells #[bv 0] 5)) (by simp [maxLen])
          have hk2 := hown3.keep ((Keeps.refl nowhere wr).alloc (.cells #[bv 0] 5)) (fun _ _ h => h)
          have hbd : (padE r k).length + [(0 : UInt8)].length ≤ 1099511627776 := by rw [← hm]; simp; omega
          have hsz := hk3.size
          have Hown3 := Lib.hid hown3
          have Hab3 := Lib.hid hab3
          have Hk3 := Lib.hid hk3
          have Hm := Lib.hid hm
          have Hpl := Lib.hid hpl
          have Hr1 := Lib.hid hr1
          have Hk2 := Lib.hid hk2
          have Hbd := Lib.hid hbd
          have Hsz := Lib.hid hsz
          clear hown3 hab3 hk3 hm hpl hr1 hk2 hbd hsz
          go_wp2_with (at_builtin; go_must (refine wpList_append_bytes rfl (.tmp 28) (.tmp 29) rfl _ (padE r k) rfl Hk2.out _ _ [(0 : UInt8)] rfl Hr1.out Hbd.out ?_))
          intro v4 w4 ho4 hk4 hf4
          have hab4 : Above W0.heap.size v4.ownBlock := Hab3.out.of_from hf4 (by have := Hsz.out; simp; omega)
          have hk34 : Keeps nowhere W0 w4 := (Hk3.out.alloc _).trans hk4 (fun b hb e => by have := Hab3.out b e; omega)
          rw [← padE_succ] at ho4
          have Ho4 := Lib.hid ho4
          have Hab4 := Lib.hid hab4
          have Hk34 := Lib.hid hk34
          clear ho4 hab4 hk34
          clear hk4 hf4
          go_wp2_with fail
          go_roundw
          case rel => exact ⟨k + 1, by omega, Ho4.out, Hab4.out, Hk34.out⟩
          case measure =>
            have h4 := Ho4.out.slLen
            rw [padE_length] at h4
            rw [h4]
            have h5 : slLen (.slice A5 m c5) = m := rfl
            rw [h5]
            have := Hm.out
            have := Hpl.out
            have := Hrl.out
            omega
        · have hm32 : ¬ (m : Int) < 32 := by have := HK.out; omega
          have hkK2 : k = K := by omega
          subst hkK2
          have hrow : padE r k = rowE x := by rw [rowE_pad, ← Hr0.out, ← HK.out]
          rw [hrow] at hown3
          have hk4 := Hk.out.more hk3
          have hout := Hown.out.keep hk3 (fun _ _ h => h)
          have hbd : (bytesN l i).length + (rowE x).length ≤ 1099511627776 := by
            have := rowE_len x hx10
            have := Hlen.out
            have : i * 10036 ≤ 10000 * 10036 := Nat.mul_le_mul_right _ (by omega)
            omega
          have hsz := Hk.out.size
          have hnx := bytesN_succ Hxx.out
          have Hown3 := Lib.hid hown3
          have Hab3 := Lib.hid hab3
          have Hk3 := Lib.hid hk3
          have Hm := Lib.hid hm
          have Hpl := Lib.hid hpl
          have Hk4 := Lib.hid hk4
          have Hout := Lib.hid hout
          have Hrow := Lib.hid hrow
          have Hbd := Lib.hid hbd
          have Hsz := Lib.hid hsz
          have Hnx := Lib.hid hnx
          clear hown3 hab3 hk3 hm hpl hk4 hout hrow hbd hsz hnx
          go_wp2_with (at_builtin; go_must (refine wpList_append_bytes rfl (.tmp 31) (.tmp 32) rfl _ (bytesN l i) rfl Hout.out _ _ (rowE x) rfl Hown3.out.rd Hbd.out ?_))
          intro v5 w5 ho5 hk5 hf5
          have hs4 := Hk4.out.size
          have hab5 : Above w.heap.size v5.ownBlock := Hab.out.of_from hf5 hs4
          have hk45 : Keeps nowhere w w5 := Hk4.out.trans hk5 (fun b hb e => by have := Hab.out b e; omega)
          rw [← Hnx.out] at ho5
          have Ho5 := Lib.hid ho5
          have Hab5 := Lib.hid hab5
          have Hk45 := Lib.hid hk45
          clear ho5 hab5 hk45
          clear hk5 hf5
          go_wp2_with fail
          go_roundw
          case rel => exact ⟨i + 1, by simp, by omega, Ho5.out, Hab5.out, Hk45.out⟩
          case measure => simp [intOf]; omega
    · obtain rfl : i = n := by omega
      have hiI : ¬ (i : Int) < i := by omega
      rw [Hn.out, bytesN_all] at hown
      have Hown := Lib.hid hown
      have Hab := Lib.hid hab
      have Hk := Lib.hid hk
      clear hown hab hk
      go_wp2_with fail
      go_ret
      exact ⟨_, rfl, Hown.out, Hab.out, Hk.out⟩
end Go.Proofs.YtnlmdfbjmhcilaaDoor
/-
  make([]byte, n): zero bytes.
-/
namespace Go.Proofs.YtnlmdfbjmhcilaaDoor
open Go.RowKit

def zeros (n : Nat) : List UInt8 := List.replicate n 0
theorem made_zeros (n : Nat) : (madeCells #[Value.int .u8 0] n).toList = (zeros n).map bv := by
  apply List.ext_getElem?
  intro j
  by_cases hj : j < n
  · simp [madeCells, zeros, hj, Nat.mod_one, bv]
  · rw [List.getElem?_eq_none (by simp [madeCells]; omega), List.getElem?_eq_none (by simp [zeros]; omega)]

section
variable {ops : Array Oper} {rest : List Oper} {o : Oper} {a : Act} {Q : Exit → Act → World → Prop}
theorem wpList_make_bytes (w : World) (hgd : o.guard = none) (l c : Operand) (hop : o.op = Op.makeSlice 25 l c) (n : Nat) (L : Int) (hl : a.eval l = .int .i64 L) (hc : a.eval c = .int .i64 L) (hL : L = (n : Int)) (hn : n ≤ 1099511627776)
    (hK : ∀ w', OwnB w' (.slice (some ⟨w.heap.size, 0, none⟩) n n) (zeros n) → Keeps nowhere w w' → wpList Tryd.prog ops Q rest (a.put o.dst (.slice (some ⟨w.heap.size, 0, none⟩) n n)) w') : wpList Tryd.prog ops Q (o :: rest) a w := by
  obtain ⟨i0, hi, hz0, hz1, hz2⟩ := info_parts infoU8
  refine wpList_make_full _ hgd l c 25 hop 0 5 i0 (.int .u8 0) 1 Tryd.underlying25 hi hz0 hz1 .i64 .i64 L L n hl hc hL hL (by rw [hz2]; omega) (by unfold maxLen; omega) (Nat.zero_le _) fun w' h1 h2 => hK w' ?_ ((Keeps.refl _ w).grown h2 (fun _ h => by cases h))
  unfold OwnB
  rw [Nat.mul_one, show (Value.int .u8 0).cells = #[Value.int .u8 0] from rfl, made_zeros] at h1
  simpa [zeros] using h1
end
end Go.Proofs.YtnlmdfbjmhcilaaDoor
/-
  num.Out: what is written. Put appends a number's lowest bytes, Raw appends bytes, Bytes tells them all.
-/
namespace Go.Proofs.YtnlmdfbjmhcilaaDoor
open Go.RowKit

/-- At block `p` an Out lies that has written `L`; its row lies in block `g`. -/
def OutAt (w : World) (p : Nat) (g : Option Nat) (L : List UInt8) : Prop :=
  ∃ v, Blk w p 61 #[v] ∧ w.ownsRow 0 5 1 v L.length (L.map bv) ∧ v.ownBlock = g

theorem OutAt.new (w : World) : OutAt (w.alloc (.cells #[.slice none 0 0] 61)) w.heap.size none [] :=
  ⟨_, Blk.new _ _ _, World.ownsRow_nil _ _ _ _, rfl⟩
theorem OutAt.keep {w w' : World} {p : Nat} {g : Option Nat} {L : List UInt8} {S : Nat → Prop} (h : OutAt w p g L) (hk : Keeps S w w') (hp : ¬ S p) (hg : ∀ b, g = some b → ¬ S b) : OutAt w' p g L := by
  obtain ⟨v, hb, ho, rfl⟩ := h
  exact ⟨v, hb.keep hk hp, own_keep ho hk hg, rfl⟩
theorem OutAt.lt {w : World} {p : Nat} {g : Option Nat} {L : List UInt8} (h : OutAt w p g L) : p < w.heap.size ∧ ∀ b, g = some b → b < w.heap.size := by
  obtain ⟨v, hb, ho, rfl⟩ := h
  exact ⟨hb.lt, fun b hb' => (ho.lt b hb').2⟩

def RetOut (p : Nat) (g : Option Nat) (w : World) (L : List UInt8) : Ending → World → Prop := fun e w' =>
  e = .returned (.tuple #[]) ∧ ∃ g', OutAt w' p g' L ∧ From g w.heap.size g' ∧ Keeps (only2 p g) w w'

set_option maxHeartbeats 400000 in
theorem out_bytes (p : Nat) (g : Option Nat) (L : List UInt8) (w : World) (ho : OutAt w p g L) (hb : L.length ≤ 1099511627776) :
    Calls Tryd.prog 29 #[.pointer (some ⟨p, 0, none⟩)] w (RetBytes w L) := by
  obtain ⟨v, hp, hown, _⟩ := ho
  have hc := hp.cell 0
  simp at hc
  have hr := Rd.of_own hown
  have Hr := Lib.hid hr
  have Hp := Lib.hid hp
  have Ho := Lib.hid hown
  clear hr hp hown
  go_enter Tryd.func29, Tryd.ntmps29
  go_wp2_with fail
  refine (clone_any _ _ L _ Hr.out (by omega)).mono ?_
  rintro e w1 ⟨v1, g1, rfl, hr1, hf1, hk1⟩
  have Hr1 := Lib.hid hr1
  have Hf := Lib.hid hf1
  have Hk := Lib.hid hk1
  clear hr1 hf1 hk1
  go_wp2_with fail
  refine (clip_any _ _ _ _ Hr1.out).mono ?_
  rintro e w2 ⟨⟨v2, rfl, hr2⟩, rfl⟩
  have Hr2 := Lib.hid hr2
  clear hr2
  go_wp2_with fail
  go_ret
  exact ⟨v2, g1, rfl, Hr2.out, Hf.out, Hk.out⟩

theorem out_step {wr w1 : World} {o : Obj} {p g1 cap : Nat} {v0 : Value} {M : List UInt8} {b : UInt8} {x : Value} (hp : Blk wr p 61 #[v0]) (hv : some p ≠ v0.ownBlock)
    (hg : (wr.alloc o).drew.grownBy w1 v0.ownBlock) (hx : x = bv b)
    (hown : w1.ownsRow 0 5 1 (.slice (some ⟨g1, 0, none⟩) (M.length + 1) cap) (M.length + 1) (M.map bv ++ [x])) :
    OutAt (w1.setCell ⟨p, 0, none⟩ (.slice (some ⟨g1, 0, none⟩) (M.length + 1) cap)) p (some g1) (M ++ [b]) := by
  subst hx
  have h1 : Blk w1 p 61 #[v0] := ((hp.alloc o).drew).grown hg hv
  have h2 := h1.set_ 0 (.slice (some ⟨g1, 0, none⟩) (M.length + 1) cap)
  have hne : Value.ownBlock (.slice (some ⟨g1, 0, none⟩) (M.length + 1) cap) ≠ some p := own_blk_ne hown h1 (by decide)
  refine ⟨_, by simpa using h2, ?_, rfl⟩
  have h3 := own_keep (S := only p) hown ((Keeps.refl (only p) w1).setCell (p := ⟨p, 0, none⟩) (fun _ => rfl) (.slice (some ⟨g1, 0, none⟩) (M.length + 1) cap)) (fun b hb e => hne (by rw [hb]; exact congrArg some e))
  simpa using h3

set_option maxHeartbeats 400000 in
theorem out_put_no (p : Nat) (n v : Int) (w : World) (hn : n < 1 ∨ 8 < n) :
    Calls Tryd.prog 27 #[.pointer (some ⟨p, 0, none⟩), .int .i64 n, .int .u64 v] w fun e w' => e = .returned (.tuple #[]) ∧ w = w' := by
  rcases hn with h | h
  · go_enter Tryd.func27, Tryd.ntmps27
    go_wp2
    refine bodyPost_ret (results_none rfl _ _ _) rfl ?_
    exact ⟨rfl, rfl⟩
  · have h' : ¬ n < 1 := by omega
    go_enter Tryd.func27, Tryd.ntmps27
    go_wp2
    refine bodyPost_ret (results_none rfl _ _ _) rfl ?_
    exact ⟨rfl, rfl⟩

set_option maxHeartbeats 800000 in
theorem out_put (p : Nat) (g : Option Nat) (L : List UInt8) (n : Nat) (v : Nat) (w : World) (ho : OutAt w p g L) (h1 : 1 ≤ n) (h8 : n ≤ 8) (hv : v < 18446744073709551616) (hb : L.length ≤ 1099511627776) :
    Calls Tryd.prog 27 #[.pointer (some ⟨p, 0, none⟩), .int .i64 n, .int .u64 v] w (RetOut p g w (L ++ nb n v)) := by
  have h1' : ¬ (n : Int) < 1 := by omega
  have h8' : ¬ (8 : Int) < n := by omega
  have Ho := Lib.hid ho
  clear ho
  have Hv := Lib.hid hv
  clear hv
  obtain ⟨i0, hi, hz0, hz1, hz2⟩ := info_parts infoU8
  go_enter Tryd.func27, Tryd.ntmps27
  go_wp2
  go_loopw [14] (fun i wr => ∃ (k : Nat) (gk : Option Nat), k ≤ n ∧ i = .int .i64 k ∧ OutAt wr p gk (L ++ nb k v) ∧ Keeps (only2 p g) w wr ∧ (∀ b, gk = some b → g = some b ∨ w.heap.size ≤ b)) (fun i _ => n - (intOf i).toNat)
  case atStart => exact ⟨0, g, Nat.zero_le _, rfl, by simpa [nb] using Ho.out, Keeps.refl _ _, fun b h => .inl h⟩
  case round =>
    obtain ⟨k, gk, hk, rfl, hok, hkeep, hgk⟩ := hrel
    have Hgk := Lib.hid hgk
    have Hkeep := Lib.hid hkeep
    clear hgk hkeep
    obtain ⟨v0, hp, hown, hv0⟩ := hok
    by_cases hlt : k < n
    · have hc0 := hp.cell 0
      have hlen : (L ++ nb k v).length ≤ 1099511627776 + 8 := by simp [nb_len]; omega
      have hf0 := hp.frozen 0
      simp at hc0
      have Hown := Lib.hid hown
      have Hp := Lib.hid hp
      have Hv0 := Lib.hid hv0
      clear hown hp hv0
      have hw8 : IntKind.i64.wrap (8 * (k : Int)) = 8 * k := IntWalk.i64_in _ (by omega)
      have h80 : (0 : Int) ≤ 8 * k := by omega
      go_wp2
      have hvp : some p ≠ v0.ownBlock := fun e => own_blk_ne Hown.out Hp.out (by decide) e.symm
      have hplt := Hp.out.lt
      go_region_law
        ((refine step_append_lies _ (by rfl) (.tmp 21) (.tmp 27) 25 (by rfl) 0 5 i0 (.int .u8 0) 1 1 Tryd.underlying25 hi hz0 hz1 hz2 rfl (by decide) v0 (L ++ nb k v).length ((L ++ nb k v).map bv) (by rfl) (Hown.out.alloc _) ⟨wr.heap.size, 0, none⟩ 1 1 [.int .u8 (IntKind.u8.wrap ((v : Int) / 2 ^ (8 * (k : Int)).toNat))] (by rfl) rfl (World.news_of_block (heap_alloc_new wr _)) (by simp; rfl) (by omega) (by unfold maxLen; omega) (by omega) (Nat.zero_le _) (wr.heap.size + 1) (by simp) ?_
          intro g1 cap w1 hown1 hgrow hat hlt1
          have hcw : w1.cell? ⟨p, 0, none⟩ = some v0 := (hgrow.cell_far ⟨p, 0, none⟩ (by simp; omega) hvp).trans (by go_simp)
          have hfw : w1.frozen? ⟨p, 0, none⟩ = false := (hgrow.frozen_far ⟨p, 0, none⟩ (by simp; omega) hvp).trans (by go_simp)))
      all_goals
        go_wp2
        go_roundw
        case rel =>
          refine ⟨k + 1, some g1, by omega, by go_num, ?_, ?_, ?_⟩
          · rw [nb_succ, ← List.append_assoc]
            have := out_step Hp.out hvp hgrow (byte_of v k) hown1
            simpa using this
          · refine (((Hkeep.out.alloc _).drew).grown hgrow (fun b hb hlt => ?_)).setCell (fun _ => .inl rfl) _
            rw [Hv0.out] at hb
            rcases Hgk.out b hb with h | h
            · exact .inr h.symm
            · omega
          · intro b hb
            injection hb with hb
            subst hb
            have hs := Hkeep.out.size
            rcases hat with h | h
            · rw [Hv0.out] at h; exact Hgk.out _ h
            · exact .inr (by omega)
        case measure => simp [intOf]; omega
    · go_wp2
      obtain rfl : k = n := by omega
      refine bodyPost_end (results_none rfl _ _ _) rfl ?_
      exact ⟨rfl, gk, ⟨v0, hp, hown, hv0⟩, Hgk.out, Hkeep.out⟩
end Go.Proofs.YtnlmdfbjmhcilaaDoor
/-
  num.Out.Raw appends bytes, whatever slice they come in.
-/
namespace Go.Proofs.YtnlmdfbjmhcilaaDoor
open Go.RowKit

theorem OutAt.set {w : World} {p N : Nat} {v0 v' : Value} {M : List UInt8} (h1 : Blk w p 61 #[v0]) (hown : w.ownsRow 0 5 1 v' N (M.map bv)) :
    OutAt (w.setCell ⟨p, 0, none⟩ v') p v'.ownBlock M := by
  have hN : N = M.length := by have := hown.1; simp at this; omega
  subst hN
  have hne : v'.ownBlock ≠ some p := own_blk_ne hown h1 (by decide)
  refine ⟨_, by simpa using h1.set_ 0 v', ?_, rfl⟩
  exact own_keep (S := only p) hown ((Keeps.refl (only p) w).setCell (p := ⟨p, 0, none⟩) (fun _ => rfl) v') (fun b hb e => hne (by rw [hb]; exact congrArg some e))

theorem raw_close {w w1 : World} {p N : Nat} {g : Option Nat} {v0 v' : Value} {L M : List UInt8} (hp : Blk w p 61 #[v0]) (hv0 : v0.ownBlock = g) (hvp : some p ≠ v0.ownBlock)
    (hown : w1.ownsRow 0 5 1 v' N (L.map bv ++ M.map bv)) (hg : w.grownBy w1 v0.ownBlock) (hat : v'.ownBlock = v0.ownBlock ∨ v'.ownBlock = some w.heap.size) :
    RetOut p g w (L ++ M) (.returned (.tuple #[])) (w1.setCell ⟨p, 0, none⟩ v') := by
  refine ⟨rfl, v'.ownBlock, OutAt.set (hp.grown hg hvp) (by simpa using hown), fun b hb => ?_, ((Keeps.refl _ w).grown hg (fun k hk _ => .inr (by rw [← hv0, hk]))).setCell (fun _ => .inl rfl) _⟩
  rcases hat with h | h
  · exact .inl (by rw [← hv0, ← h, hb])
  · rw [h] at hb; injection hb with hb; exact .inr (by omega)

set_option maxHeartbeats 400000 in
theorem out_raw (p : Nat) (g gm : Option Nat) (L M : List UInt8) (v : Value) (w : World) (ho : OutAt w p g L) (hr : Rd w v gm (M.map bv)) (hb : L.length + M.length ≤ 1099511627776) :
    Calls Tryd.prog 28 #[.pointer (some ⟨p, 0, none⟩), v] w (RetOut p g w (L ++ M)) := by
  obtain ⟨v0, hp, hown, hv0⟩ := ho
  have hc0 := hp.cell 0
  have hf0 := hp.frozen 0
  simp at hc0
  have hvp : some p ≠ v0.ownBlock := fun e => own_blk_ne hown hp (by decide) e.symm
  have hplt := hp.lt
  obtain ⟨i0, hi, hz0, hz1, hz2⟩ := info_parts infoU8
  have Hp := Lib.hid hp
  have Hv0 := Lib.hid hv0
  clear hp hv0
  rcases hr with ⟨rfl, _, hM⟩ | ⟨a, cap, rfl, _, _, h1, h2, hc⟩
  · have hM' : M = [] := by simpa using hM
    subst hM'
    have hcl := raw_close (v' := v0) (N := L.length) (M := []) Hp.out Hv0.out hvp (by simpa using hown) (World.grownBy.refl w _) (.inl rfl)
    have Hcl := Lib.hid hcl
    clear hcl
    rcases hown.2 with ⟨rfl, _⟩ | ⟨g', cap', cur', rfl, _⟩
    all_goals
      go_enter Tryd.func28, Tryd.ntmps28
      go_wp2_with (at_builtin; refine wpList_append_own_none rfl _ _ 25 rfl 0 5 i0 1 Tryd.underlying25 hi _ L.length (L.map bv) rfl hown rfl ?_)
      go_end0
      exact Hcl.out
  · have Hc := Lib.hid hc
    have Hown := Lib.hid hown
    rw [List.length_map] at h1
    rw [List.length_map]
    clear hc hown
    go_enter Tryd.func28, Tryd.ntmps28
    go_wp2_with (at_builtin; refine wpList_append_own_at _ rfl _ _ 25 rfl 0 5 i0 (.int .u8 0) 1 1 Tryd.underlying25 hi hz0 hz1 hz2 rfl (by decide) v0 L.length (L.map bv) rfl Hown.out a M.length cap (M.map bv) rfl ?c1 ?c2 ?c3 ?c4 ?c5 ?c6 ?_)
    case c1 => simp
    case c2 => exact Hc.out
    case c3 => exact bv_one M
    case c4 => unfold maxLen; omega
    case c5 => omega
    case c6 => exact Nat.zero_le _
    intro v' w1 hown1 hgrow _ hat
    have hcl := raw_close Hp.out Hv0.out hvp hown1 hgrow hat
    have hcw : w1.cell? ⟨p, 0, none⟩ = some v0 := (hgrow.cell_far ⟨p, 0, none⟩ hplt hvp).trans hc0
    have hfw : w1.frozen? ⟨p, 0, none⟩ = false := (hgrow.frozen_far ⟨p, 0, none⟩ hplt hvp).trans hf0
    have Hcl := Lib.hid hcl
    have hown2 := hown1.2
    clear hcl hown1 hgrow hat
    rcases hown2 with ⟨rfl, _⟩ | ⟨g', cap', cur', rfl, _⟩
    all_goals
      go_wp2
      go_end0
      exact Hcl.out
end Go.Proofs.YtnlmdfbjmhcilaaDoor
/-
  entry: Encode.
-/
namespace Go.Proofs.YtnlmdfbjmhcilaaDoor
open Go.RowKit Go.Proofs
attribute [local go_sem] strOf_size strOf_get strOf_toList

def encB (l : List EntV) : List UInt8 := if checkE l = 0 then bytesE l else []
def EncP (l : List EntV) (w : World) : Ending → World → Prop := fun e w' => ∃ v g, e = .returned (.tuple #[v, .int .i64 (checkE l)]) ∧ Rd w' v g ((encB l).map bv) ∧ Above w.heap.size g ∧ Keeps nowhere w w'
theorem EncP.no {l : List EntV} {w w' : World} {k : Int} (h : checkE l = k) (h0 : k ≠ 0) (hk : Keeps nowhere w w') : EncP l w (.returned (.tuple #[.slice none 0 0, .int .i64 k])) w' :=
  ⟨_, none, by rw [h], by rw [encB, if_neg (by rw [h]; exact h0)]; exact Rd.nil _, Above.none _, hk⟩
theorem EncP.yes {l : List EntV} {w w' : World} {v : Value} {g : Option Nat} (h : checkE l = 0) (hr : Rd w' v g ((encB l).map bv)) (ha : Above w.heap.size g) (hk : Keeps nowhere w w') : EncP l w (.returned (.tuple #[v, .int .i64 0])) w' :=
  ⟨v, g, by rw [h], hr, ha, hk⟩
/-- in the midst of Encode: what is written so far, and the entry at hand -/
theorem rd_of {w : World} {a : Addr} {n c : Nat} {g : Option Nat} {s : List UInt8} (h : recB.Rd w (.slice (some a) n c) g s) : Rd w (.slice (some a) n c) g (s.map bv) := by
  obtain ⟨A, cap, hv, h1, h2, hu, h3, h4⟩ := h
  injection hv with e1 e2 e3
  subst e2 e3
  refine .inr ⟨a, c, by simp, hu, fun hp => ?_, by simpa using h1, h2, fun j u hj => ?_⟩
  · obtain ⟨b, off, hA, hg, -⟩ := h3 (by simpa using hp)
    rw [hA] at e1
    injection e1 with e1
    subst e1
    exact ⟨hg, rfl⟩
  · rw [List.getElem?_map] at hj
    obtain ⟨x, hx, rfl⟩ := Option.map_eq_some_iff.1 hj
    obtain ⟨b, off, hA, hg, hc⟩ := h3 (pos_of_get hx)
    rw [hA] at e1
    injection e1 with e1
    subst e1
    have := hc j x hx 0 (by decide)
    rw [Addr.add_lit]
    simpa [recB] using this
structure EncQ (w W : World) (p q : Nat) (go : Option Nat) (L : List UInt8) (cs : Array Value) : Prop where
  out : OutAt W p go L
  ab : Above w.heap.size go
  k : Keeps nowhere w W
  hp : w.heap.size ≤ p
  blk : Blk W q 38 cs
  pq : p ≠ q
  gq : ∀ b, go = some b → b ≠ q
theorem EncQ.keep {w W W' : World} {p q : Nat} {go : Option Nat} {L : List UInt8} {cs : Array Value} (h : EncQ w W p q go L cs) (hk : Keeps nowhere W W') : EncQ w W' p q go L cs :=
  ⟨h.out.keep hk (fun h => h) (fun _ _ h => h), h.ab, h.k.more hk, h.hp, h.blk.keep hk (fun h => h), h.pq, h.gq⟩
theorem EncQ.ret {w W W' : World} {p q : Nat} {go : Option Nat} {L L' : List UInt8} {cs : Array Value} (h : EncQ w W p q go L cs) {e : Ending} (hr : RetOut p go W L' e W') : e = .returned (.tuple #[]) ∧ ∃ go', EncQ w W' p q go' L' cs := by
  obtain ⟨he, go', ho, hf, hk⟩ := hr
  have hs := h.k.size
  refine ⟨he, go', ho, h.ab.of_from hf hs, h.k.trans hk (fun b hb e => ?_), h.hp, h.blk.keep hk (fun e => ?_), h.pq, fun b hb => ?_⟩
  · have hp := h.hp
    rcases e with e | e
    · have : b = p := e
      omega
    · have := h.ab b e.symm
      omega
  · rcases e with e | e
    · exact h.pq e.symm
    · exact h.gq q e.symm rfl
  · rcases hf b hb with h1 | h1
    · exact h.gq b h1
    · have := h.blk.lt
      omega
theorem mayE_len {x : EntV} (h : mayE x = 0) : x.1.length ≤ 28 := by
  have h0 : nameE x.1 = 0 := by
    unfold mayE at h
    by_cases e : nameE x.1 = 0
    · exact e
    · rw [if_neg e] at h
      exact absurd h e
  unfold nameE at h0
  split at h0
  · cases h0
  · split at h0
    · cases h0
    · split at h0
      · cases h0
      · omega
set_option maxRecDepth 20000 in
set_option maxHeartbeats 8000000 in
theorem encode_any (A : Option Addr) (c : Nat) (g : Option Nat) (l : List EntV) (w : World) (hr : recE.Rd w (.slice A l.length c) g l) (hl : l.length ≤ 10000) (hok : OkE l) :
    Calls Tryd.prog 11 #[.slice A l.length c] w (EncP l w) := by
  obtain ⟨n, hn⟩ : ∃ n, n = l.length := ⟨_, rfl⟩
  have hx := fun hp => rdE_cells hr hp
  rw [← hn] at hl ⊢
  obtain ⟨p, hp⟩ : ∃ p, p = w.heap.size := ⟨_, rfl⟩
  obtain ⟨w1, hw1⟩ : ∃ w1, w1 = w.alloc (.cells #[.slice none 0 0] 61) := ⟨_, rfl⟩
  have hk1 : Keeps nowhere w w1 := by rw [hw1]; exact (Keeps.refl nowhere w).alloc _
  have ho1 : OutAt w1 p none [] := by rw [hw1, hp]; exact OutAt.new w
  have Hr := Lib.hid hr
  have Hn := Lib.hid hn
  have Hx := Lib.hid hx
  have Hok := Lib.hid hok
  have Hp := Lib.hid hp
  have Hw1 := Lib.hid hw1
  have Hk1 := Lib.hid hk1
  have Ho1 := Lib.hid ho1
  clear hr hn hx hok hp hw1 hk1 ho1
  go_enter Tryd.func11, Tryd.ntmps11
  go_upto_region 2 with fail
  rw [← Hw1.out]
  simp only [← Hp.out]
  go_wp2_with fail
  go_loopw [10] (fun iv wr => ∃ i : Nat, iv = .int .i64 i ∧ i ≤ n ∧ checkN l i = 0 ∧ ∃ go, OutAt wr p go (bytesN l i) ∧ Above w.heap.size go ∧ Keeps nowhere w wr) (fun iv _ => n - (intOf iv).toNat)
  case atStart => exact ⟨0, rfl, Nat.zero_le _, rfl, none, by rw [bytesN_zero]; exact Ho1.out, Above.none _, Hk1.out⟩
  case round =>
    obtain ⟨i, rfl, hi, hck, go, hout, hab, hk⟩ := hrel
    obtain ⟨W0, hW0⟩ : ∃ W0, W0 = wr := ⟨_, rfl⟩
    subst hW0
    by_cases hlt : i < n
    · have hltI : (i : Int) < n := by omega
      have hi0 : (0 : Int) ≤ (i : Int) := by omega
      have hi1 : IntKind.i64.wrap ((i : Int) + 1) = i + 1 := IntWalk.i64_in _ (by omega)
      obtain ⟨x, hxx⟩ : ∃ x, l[i]? = some x := ⟨_, List.getElem?_eq_getElem (by rw [← Hn.out]; exact hlt)⟩
      obtain ⟨b, o, hA, hb, hcells⟩ := Hx.out (by rw [← Hn.out]; omega)
      obtain ⟨c0, c1⟩ := hcells W0 hk i x hxx
      subst hA
      have hgd : l.getD i entD = x := by rw [List.getD_eq_getElem?_getD, hxx]; rfl
      have hx4 := (Hok.out i x hxx).2
      have hx10 := (Hok.out i x hxx).1
      have hstep : ∀ e : Int, entChk l i = e → e ≠ 0 → checkE l = e := fun e he h0 => by
        have h1 : checkN l (i + 1) = e := by rw [checkN, if_pos hck, he]
        unfold checkE
        rw [← Hn.out, checkN_stays (by rw [h1]; exact h0) (by omega : i + 1 ≤ n), h1]
      have hnext : entChk l i = 0 → checkN l (i + 1) = 0 := fun he => by rw [checkN, if_pos hck, he]
      have hu : IntKind.u64.wrap (x.2 : Int) = x.2 := by rw [IntKind.wrap_u64]; omega
      obtain ⟨q, hq⟩ : ∃ q, q = W0.heap.size := ⟨_, rfl⟩
      obtain ⟨W1, hW1⟩ : ∃ W1, W1 = W0.alloc (.cells #[.string (strOf x.1), .int .u32 x.2] 38) := ⟨_, rfl⟩
      have hk1 : Keeps nowhere W0 W1 := by rw [hW1]; exact (Keeps.refl nowhere W0).alloc _
      have hb1 : Blk W1 q 38 #[.string (strOf x.1), .int .u32 x.2] := by rw [hW1, hq]; exact Blk.new _ _ _
      have hmay := fun w => may_any x (by omega) w
      unfold entV at hmay
      have Hout := Lib.hid hout
      have Hab := Lib.hid hab
      have Hk := Lib.hid hk
      have Hxx := Lib.hid hxx
      have Hck := Lib.hid hck
      have Hgd := Lib.hid hgd
      have Hq := Lib.hid hq
      have HW1 := Lib.hid hW1
      have Hk1 := Lib.hid hk1
      have Hb1 := Lib.hid hb1
      have Hmay := Lib.hid hmay
      have Hstep := Lib.hid hstep
      have Hnext := Lib.hid hnext
      have Hcells := Lib.hid hcells
      clear hout hab hk hxx hck hgd hq hW1 hk1 hb1 hmay hstep hnext hcells
      go_upto_region 5 with fail
      rw [← HW1.out]
      simp only [← Hq.out]
      have d0 := Hb1.out.cell 0
      have d1 := Hb1.out.cell 1
      simp at d0 d1
      go_wp2_with fail
      refine (Hmay.out _).mono ?_
      rintro e W2 ⟨rfl, hk2⟩
      clear d0 d1 c0 c1
      obtain ⟨m0, hm0⟩ : ∃ m, m = mayE x := ⟨_, rfl⟩
      have hbl2 := Hb1.out.keep hk2 (fun h => h)
      have hst : EncQ w W2 p q go (bytesN l i) #[.string (strOf x.1), .int .u32 x.2] := by
        have h1 := Hk1.out.more hk2
        refine ⟨Hout.out.keep h1 (fun h => h) (fun _ _ h => h), Hab.out, Hk.out.more h1, by rw [Hp.out]; exact Nat.le_refl _, hbl2, ?_, fun b hb => ?_⟩
        · have := Hout.out.lt.1
          have := Hq.out
          omega
        · have := Hout.out.lt.2 b hb
          have := Hq.out
          omega
      rw [← hm0]
      clear hk2 hbl2
      by_cases z0 : m0 = 0
      · subst z0
        have hlen28 := mayE_len hm0.symm
        by_cases hi2 : i = 0
        · have hc0 := Hnext.out (by unfold entChk; rw [Hgd.out, ← hm0, if_pos rfl, if_neg (by omega)])
          have hi2I : decide ((0 : Int) < (i : Int)) = false := by simp [hi2]
          have hi2N : decide (0 < i) = false := by simp [hi2]
          have Hm0 := Lib.hid hm0
          have Hst := Lib.hid hst
          have Hc0 := Lib.hid hc0
          have Hi2 := Lib.hid hi2
          clear hm0 hst hc0 hi2
          go_wp2_with fail
          go_quiet (fail)
          have hsx := Hst.out.keep ((Keeps.refl nowhere W2).drewN nq)
          generalize W2.drewN nq = WX at hsx ⊢
          have Hsx := Lib.hid hsx
          clear hsx
          have hsz := Hsx.out.k.size
          have d1 := Hsx.out.blk.cell 1
          simp at d1
          go_wp2_with fail
          have hbl := bytesN_len Hok.out i (by rw [← Hn.out]; omega)
          have hb0 : (bytesN l i).length ≤ 100400000 := by
            have : i * 10036 ≤ 10000 * 10036 := Nat.mul_le_mul_right _ (by omega)
            omega
          refine (out_put p go (bytesN l i) 4 x.2 WX Hsx.out.out (by omega) (by omega) (by omega) (by omega)).mono ?_
          rintro e W4 hret4
          obtain ⟨rfl, go4, hs4⟩ := Hsx.out.ret hret4
          have hl4 : (bytesN l i ++ nb 4 x.2).length ≤ 100400004 := by rw [List.length_append, nb_len]; omega
          have d2 := hs4.blk.cell 0
          simp at d2
          obtain ⟨c5, W5, hconv, hrd5, hk5⟩ := conv_bytes x.1 (by omega) W4
          have hs5 := hs4.keep hk5
          have hret6 := out_raw p go4 _ _ _ _ W5 hs5.out (rd_of hrd5) (by omega)
          obtain ⟨q5, hq5⟩ : ∃ q5, q5 = W4.heap.size := ⟨_, rfl⟩
          rw [← hq5] at hconv hret6
          clear d1 hret4 hrd5 hk5 hbl
          have Hs4 := Lib.hid hs4
          have Hs5 := Lib.hid hs5
          have Hl4 := Lib.hid hl4
          have Hret6 := Lib.hid hret6
          have Hq5 := Lib.hid hq5
          clear hs4 hs5 hl4 hret6 hq5
          go_wp2_with fail
          refine Hret6.out.mono ?_
          rintro e W6 hret6
          obtain ⟨rfl, go6, hs6⟩ := Hs5.out.ret hret6
          have d3 := hs6.blk.cell 0
          simp at d3
          have hl6 : (bytesN l i ++ nb 4 x.2 ++ x.1).length ≤ 100400040 := by rw [List.length_append]; have := Hl4.out; omega
          obtain ⟨z, hz⟩ : ∃ z, z = 28 - x.1.length := ⟨_, rfl⟩
          have hz28 : z ≤ 28 := by omega
          have hzb : z ≤ 1099511627776 := by omega
          have hxz : ((28 : Int) - (x.1.length : Int)) = (z : Int) := by omega
          have hxz2 : IntKind.i64.wrap ((28 : Int) - (x.1.length : Int)) = (z : Int) := by rw [hxz]; exact IntWalk.i64_in _ (by omega)
          clear d2 hret6 hconv
          have Hs6 := Lib.hid hs6
          have Hl6 := Lib.hid hl6
          have Hz := Lib.hid hz
          have Hxz := Lib.hid hxz
          clear hs6 hl6 hz hxz
          go_wp2_with (refine wpList_make_bytes _ rfl (.tmp 48) (.tmp 48) rfl z _ rfl rfl rfl hzb ?_)
          intro W7 hown7 hk7
          have hs7 := Hs6.out.keep hk7
          obtain ⟨q7, hq7⟩ : ∃ q7, q7 = W6.heap.size := ⟨_, rfl⟩
          rw [← hq7] at hown7 ⊢
          have hzl : (zeros z).length = z := by simp [zeros]
          have hret8 := out_raw p go6 _ _ (zeros z) _ W7 hs7.out hown7.rd (by have := Hl6.out; rw [hzl]; omega)
          clear d3 hk7 hown7
          have Hs7 := Lib.hid hs7
          have Hq7 := Lib.hid hq7
          have Hret8 := Lib.hid hret8
          have Hzl := Lib.hid hzl
          clear hs7 hq7 hret8 hzl
          go_wp2_with fail
          refine Hret8.out.mono ?_
          rintro e W8 hret8
          obtain ⟨rfl, go8, hs8⟩ := Hs7.out.ret hret8
          have hfin : bytesN l i ++ nb 4 x.2 ++ x.1 ++ zeros z = bytesN l (i + 1) := by
            rw [bytesN_succ Hxx.out]
            unfold rowE
            have : 32 - (nb 4 x.2 ++ x.1).length = z := by rw [List.length_append, nb_len]; have := Hz.out; omega
            rw [this, zeros]
            simp only [List.append_assoc]
          rw [hfin] at hs8
          clear hret8
          have Hs8 := Lib.hid hs8
          have Hfin := Lib.hid hfin
          clear hs8 hfin
          go_wp2_with fail
          go_roundw
          case rel => exact ⟨i + 1, by simp, by omega, Hc0.out, go8, Hs8.out.out, Hs8.out.ab, Hs8.out.k⟩
          case measure => simp [intOf]; omega
        · have hi2I : decide ((0 : Int) < (i : Int)) = true := decide_eq_true (by omega)
          have hi2N : decide (0 < i) = true := decide_eq_true (by omega)
          obtain ⟨j, hj⟩ : ∃ j, j = i - 1 := ⟨_, rfl⟩
          have hj0 : (0 : Int) ≤ (j : Int) := by omega
          have hjlt : (j : Int) < n := by omega
          have hjlN : j < n := by omega
          have hjw : IntKind.i64.wrap ((i : Int) - 1) = j := by rw [hj, IntWalk.i64_in _ (by omega)]; omega
          obtain ⟨y, hyy⟩ : ∃ y, l[j]? = some y := ⟨_, List.getElem?_eq_getElem (by rw [← Hn.out]; exact hjlN)⟩
          have hgy : l.getD (i - 1) entD = y := by rw [← hj, List.getD_eq_getElem?_getD, hyy]; rfl
          have q0 : ∀ w', Keeps nowhere W2.drew w' → w'.cell? ⟨b, o + j * 2, none⟩ = some (.string (strOf y.1)) := fun w' e => (Hcells.out w' (hst.k.drew.more e) j y hyy).1
          have q1 : ∀ w', Keeps nowhere W2.drew w' → w'.cell? ⟨b, o + j * 2 + 1, none⟩ = some (.int .u32 y.2) := fun w' e => (Hcells.out w' (hst.k.drew.more e) j y hyy).2
          have q2 : ∀ w', Keeps nowhere W2.drew w' → w'.cell? ⟨q, 0, none⟩ = some (.string (strOf x.1)) := fun w' e => by simpa using ((hst.keep (((Keeps.refl nowhere W2).drew).more e)).blk).cell 0
          have hcmp := fun w => ecompare_any y x.1 w
          unfold entV at hcmp
          by_cases hord : Go.Op.bytesLess y.1 x.1 = true
          · have hcm : cmpS y.1 x.1 = -1 := by unfold cmpS; rw [if_pos hord]
            rw [hcm] at hcmp
            have hc0 := Hnext.out (by unfold entChk; rw [Hgd.out, hgy, ← hm0, if_pos rfl, if_neg (by intro h; rw [ltS] at h; rw [hord] at h; exact absurd h.2 (by decide))])
            have Hm0 := Lib.hid hm0
            have Hst := Lib.hid hst
            have Hj := Lib.hid hj
            have Hyy := Lib.hid hyy
            have Hgy := Lib.hid hgy
            have Hcmp := Lib.hid hcmp
            have Hc0 := Lib.hid hc0
            have Hcm := Lib.hid hcm
            have Hord := Lib.hid hord
            clear hm0 hst hj hyy hgy hcmp hc0 hcm hord
            go_wp2_with fail
            refine wp_region_script [7, 8, 9, 10, 11, 12] [11] [.es [0, 1, 2, 3, 4, 5, 6] false, .ps [7, 8, 9], .ps [10], .fs [11], .ps [12], .es [13] true, .es [14, 15, 16] false] (Keeps nowhere W2.drew) rfl (by kernel_rfl) ?_
            refine wpS_es rfl fun K hK => ?_
            have HK := Lib.hid hK
            clear hK
            simp only [List.map_cons, List.map_nil, Option.getD_some, List.getElem?_toArray, List.getElem?_cons_zero, List.getElem?_cons_succ]
            go_wp2_with fail
            refine HK.out _ _ (fun h => by cases h) ?_
            clear HK K
            refine wpS_ps rfl fun K hK => ?_
            simp only [List.map_cons, List.map_nil, Option.getD_some, List.getElem?_toArray, List.getElem?_cons_zero, List.getElem?_cons_succ]
            iterate 3 (first | (apply quietO_cons _ rfl; (intro w' _; go_simp; rfl)) | apply quietO_skip rfl)
            refine hK _ ?_
            clear hK K
            simp only [Act.put, List.setIfInBounds_toArray, List.set_cons_zero, List.set_cons_succ]
            refine wpS_ps rfl fun K hK => ?_
            simp only [List.map_cons, List.map_nil, Option.getD_some, List.getElem?_toArray, List.getElem?_cons_zero, List.getElem?_cons_succ]
            iterate 1 (first | (apply quietO_cons _ rfl; (intro w' _; go_simp; rfl)) | apply quietO_skip rfl)
            refine hK _ ?_
            clear hK K
            simp only [Act.put, List.setIfInBounds_toArray, List.set_cons_zero, List.set_cons_succ]
            refine wpS_fs rfl (Keeps.refl _ _) fun K hK => ?_
            simp only [List.map_cons, List.map_nil, Option.getD_some, List.getElem?_toArray, List.getElem?_cons_zero, List.getElem?_cons_succ]
            iterate 1 (first | (apply quietO_cons _ rfl; (intro w' hs; have c_0 := q0 w' hs; have c_1 := q1 w' hs; go_simp; rfl)) | apply quietO_skip rfl)
            refine hK _ ?_
            clear hK K
            simp only [Act.put, List.setIfInBounds_toArray, List.set_cons_zero, List.set_cons_succ]
            refine wpS_ps rfl fun K hK => ?_
            simp only [List.map_cons, List.map_nil, Option.getD_some, List.getElem?_toArray, List.getElem?_cons_zero, List.getElem?_cons_succ]
            iterate 1 (first | (apply quietO_cons _ rfl; (intro w' _; go_simp; rfl)) | apply quietO_skip rfl)
            refine hK _ ?_
            clear hK K
            simp only [Act.put, List.setIfInBounds_toArray, List.set_cons_zero, List.set_cons_succ]
            have d0 := q2 _ (Keeps.refl _ _)
            clear q0 q1 q2
            refine wpS_es rfl fun K hK => ?_
            have HK := Lib.hid hK
            clear hK
            simp only [List.map_cons, List.map_nil, Option.getD_some, List.getElem?_toArray, List.getElem?_cons_zero, List.getElem?_cons_succ]
            go_wp2_with fail
            refine HK.out _ _ (fun _ => Keeps.refl _ _) ?_
            clear HK K
            refine wpS_es rfl fun K hK => ?_
            have HK := Lib.hid hK
            clear hK
            simp only [List.map_cons, List.map_nil, Option.getD_some, List.getElem?_toArray, List.getElem?_cons_zero, List.getElem?_cons_succ]
            go_wp2_with fail
            refine (Hcmp.out _).mono ?_
            rintro e W3 ⟨rfl, hk3⟩
            have hsx := Hst.out.keep (((Keeps.refl nowhere W2).drew).more hk3)
            clear d0 hk3
            have Hsx := Lib.hid hsx
            clear hsx
            go_wp2_with fail
            refine HK.out _ _ (fun h => by cases h) ?_
            clear HK K
            refine wpS_nil ?_
            have hsz := Hsx.out.k.size
            have d1 := Hsx.out.blk.cell 1
            simp at d1
            go_wp2_with fail
            have hbl := bytesN_len Hok.out i (by rw [← Hn.out]; omega)
            have hb0 : (bytesN l i).length ≤ 100400000 := by
              have : i * 10036 ≤ 10000 * 10036 := Nat.mul_le_mul_right _ (by omega)
              omega
            refine (out_put p go (bytesN l i) 4 x.2 W3 Hsx.out.out (by omega) (by omega) (by omega) (by omega)).mono ?_
            rintro e W4 hret4
            obtain ⟨rfl, go4, hs4⟩ := Hsx.out.ret hret4
            have hl4 : (bytesN l i ++ nb 4 x.2).length ≤ 100400004 := by rw [List.length_append, nb_len]; omega
            have d2 := hs4.blk.cell 0
            simp at d2
            obtain ⟨c5, W5, hconv, hrd5, hk5⟩ := conv_bytes x.1 (by omega) W4
            have hs5 := hs4.keep hk5
            have hret6 := out_raw p go4 _ _ _ _ W5 hs5.out (rd_of hrd5) (by omega)
            obtain ⟨q5, hq5⟩ : ∃ q5, q5 = W4.heap.size := ⟨_, rfl⟩
            rw [← hq5] at hconv hret6
            clear d1 hret4 hrd5 hk5 hbl
            have Hs4 := Lib.hid hs4
            have Hs5 := Lib.hid hs5
            have Hl4 := Lib.hid hl4
            have Hret6 := Lib.hid hret6
            have Hq5 := Lib.hid hq5
            clear hs4 hs5 hl4 hret6 hq5
            go_wp2_with fail
            refine Hret6.out.mono ?_
            rintro e W6 hret6
            obtain ⟨rfl, go6, hs6⟩ := Hs5.out.ret hret6
            have d3 := hs6.blk.cell 0
            simp at d3
            have hl6 : (bytesN l i ++ nb 4 x.2 ++ x.1).length ≤ 100400040 := by rw [List.length_append]; have := Hl4.out; omega
            obtain ⟨z, hz⟩ : ∃ z, z = 28 - x.1.length := ⟨_, rfl⟩
            have hz28 : z ≤ 28 := by omega
            have hzb : z ≤ 1099511627776 := by omega
            have hxz : ((28 : Int) - (x.1.length : Int)) = (z : Int) := by omega
            have hxz2 : IntKind.i64.wrap ((28 : Int) - (x.1.length : Int)) = (z : Int) := by rw [hxz]; exact IntWalk.i64_in _ (by omega)
            clear d2 hret6 hconv
            have Hs6 := Lib.hid hs6
            have Hl6 := Lib.hid hl6
            have Hz := Lib.hid hz
            have Hxz := Lib.hid hxz
            clear hs6 hl6 hz hxz
            go_wp2_with (refine wpList_make_bytes _ rfl (.tmp 48) (.tmp 48) rfl z _ rfl rfl rfl hzb ?_)
            intro W7 hown7 hk7
            have hs7 := Hs6.out.keep hk7
            obtain ⟨q7, hq7⟩ : ∃ q7, q7 = W6.heap.size := ⟨_, rfl⟩
            rw [← hq7] at hown7 ⊢
            have hzl : (zeros z).length = z := by simp [zeros]
            have hret8 := out_raw p go6 _ _ (zeros z) _ W7 hs7.out hown7.rd (by have := Hl6.out; rw [hzl]; omega)
            clear d3 hk7 hown7
            have Hs7 := Lib.hid hs7
            have Hq7 := Lib.hid hq7
            have Hret8 := Lib.hid hret8
            have Hzl := Lib.hid hzl
            clear hs7 hq7 hret8 hzl
            go_wp2_with fail
            refine Hret8.out.mono ?_
            rintro e W8 hret8
            obtain ⟨rfl, go8, hs8⟩ := Hs7.out.ret hret8
            have hfin : bytesN l i ++ nb 4 x.2 ++ x.1 ++ zeros z = bytesN l (i + 1) := by
              rw [bytesN_succ Hxx.out]
              unfold rowE
              have : 32 - (nb 4 x.2 ++ x.1).length = z := by rw [List.length_append, nb_len]; have := Hz.out; omega
              rw [this, zeros]
              simp only [List.append_assoc]
            rw [hfin] at hs8
            clear hret8
            have Hs8 := Lib.hid hs8
            have Hfin := Lib.hid hfin
            clear hs8 hfin
            go_wp2_with fail
            go_roundw
            case rel => exact ⟨i + 1, by simp, by omega, Hc0.out, go8, Hs8.out.out, Hs8.out.ab, Hs8.out.k⟩
            case measure => simp [intOf]; omega
          · have hordF : Go.Op.bytesLess y.1 x.1 = false := by simpa using hord
            obtain ⟨m, hm2⟩ : ∃ m, m = cmpS y.1 x.1 := ⟨_, rfl⟩
            have hcm : 0 ≤ m := by rw [hm2]; unfold cmpS; rw [if_neg hord]; split <;> omega
            rw [← hm2] at hcmp
            have hfin := Hstep.out 7 (by unfold entChk; rw [Hgd.out, hgy, ← hm0, if_pos rfl, if_pos ⟨by omega, by rw [ltS]; exact hordF⟩]) (by decide)
            have Hm0 := Lib.hid hm0
            have Hst := Lib.hid hst
            have Hj := Lib.hid hj
            have Hyy := Lib.hid hyy
            have Hgy := Lib.hid hgy
            have Hcmp := Lib.hid hcmp
            have Hfin := Lib.hid hfin
            have HordF := Lib.hid hordF
            have Hm2 := Lib.hid hm2
            clear hm0 hst hj hyy hgy hcmp hfin hordF hm2
            clear hord
            go_wp2_with fail
            refine wp_region_script [7, 8, 9, 10, 11, 12] [11] [.es [0, 1, 2, 3, 4, 5, 6] false, .ps [7, 8, 9], .ps [10], .fs [11], .ps [12], .es [13] true, .es [14, 15, 16] false] (Keeps nowhere W2.drew) rfl (by kernel_rfl) ?_
            refine wpS_es rfl fun K hK => ?_
            have HK := Lib.hid hK
            clear hK
            simp only [List.map_cons, List.map_nil, Option.getD_some, List.getElem?_toArray, List.getElem?_cons_zero, List.getElem?_cons_succ]
            go_wp2_with fail
            refine HK.out _ _ (fun h => by cases h) ?_
            clear HK K
            refine wpS_ps rfl fun K hK => ?_
            simp only [List.map_cons, List.map_nil, Option.getD_some, List.getElem?_toArray, List.getElem?_cons_zero, List.getElem?_cons_succ]
            iterate 3 (first | (apply quietO_cons _ rfl; (intro w' _; go_simp; rfl)) | apply quietO_skip rfl)
            refine hK _ ?_
            clear hK K
            simp only [Act.put, List.setIfInBounds_toArray, List.set_cons_zero, List.set_cons_succ]
            refine wpS_ps rfl fun K hK => ?_
            simp only [List.map_cons, List.map_nil, Option.getD_some, List.getElem?_toArray, List.getElem?_cons_zero, List.getElem?_cons_succ]
            iterate 1 (first | (apply quietO_cons _ rfl; (intro w' _; go_simp; rfl)) | apply quietO_skip rfl)
            refine hK _ ?_
            clear hK K
            simp only [Act.put, List.setIfInBounds_toArray, List.set_cons_zero, List.set_cons_succ]
            refine wpS_fs rfl (Keeps.refl _ _) fun K hK => ?_
            simp only [List.map_cons, List.map_nil, Option.getD_some, List.getElem?_toArray, List.getElem?_cons_zero, List.getElem?_cons_succ]
            iterate 1 (first | (apply quietO_cons _ rfl; (intro w' hs; have c_0 := q0 w' hs; have c_1 := q1 w' hs; go_simp; rfl)) | apply quietO_skip rfl)
            refine hK _ ?_
            clear hK K
            simp only [Act.put, List.setIfInBounds_toArray, List.set_cons_zero, List.set_cons_succ]
            refine wpS_ps rfl fun K hK => ?_
            simp only [List.map_cons, List.map_nil, Option.getD_some, List.getElem?_toArray, List.getElem?_cons_zero, List.getElem?_cons_succ]
            iterate 1 (first | (apply quietO_cons _ rfl; (intro w' _; go_simp; rfl)) | apply quietO_skip rfl)
            refine hK _ ?_
            clear hK K
            simp only [Act.put, List.setIfInBounds_toArray, List.set_cons_zero, List.set_cons_succ]
            have d0 := q2 _ (Keeps.refl _ _)
            clear q0 q1 q2
            refine wpS_es rfl fun K hK => ?_
            have HK := Lib.hid hK
            clear hK
            simp only [List.map_cons, List.map_nil, Option.getD_some, List.getElem?_toArray, List.getElem?_cons_zero, List.getElem?_cons_succ]
            go_wp2_with fail
            refine HK.out _ _ (fun _ => Keeps.refl _ _) ?_
            clear HK K
            refine wpS_es rfl fun K hK => ?_
            have HK := Lib.hid hK
            clear hK
            simp only [List.map_cons, List.map_nil, Option.getD_some, List.getElem?_toArray, List.getElem?_cons_zero, List.getElem?_cons_succ]
            go_wp2_with fail
            refine (Hcmp.out _).mono ?_
            rintro e W3 ⟨rfl, hk3⟩
            have hsx := Hst.out.keep (((Keeps.refl nowhere W2).drew).more hk3)
            clear d0 hk3
            have Hsx := Lib.hid hsx
            clear hsx
            go_wp2_with fail
            refine HK.out _ _ (fun h => by cases h) ?_
            clear HK K
            refine wpS_nil ?_
            go_wp2_with fail
            go_ret2
            exact EncP.no Hfin.out (by decide) Hsx.out.k
      · have hz0 : (m0 == 0) = false := by simp [z0]
        have hz0n : (m0 != 0) = true := by simp [z0]
        have hfin := Hstep.out m0 (by unfold entChk; rw [Hgd.out, ← hm0, if_neg z0]) z0
        have Hm0 := Lib.hid hm0
        have Hst := Lib.hid hst
        have Hfin := Lib.hid hfin
        clear hm0 hst hfin
        go_wp2_with fail
        go_quiet (fail)
        go_wp2_with fail
        go_ret2
        exact EncP.no Hfin.out z0 (Hst.out.k.drewN _)
    · obtain rfl : i = n := by omega
      have hiI : ¬ (i : Int) < i := by omega
      have hfin : checkE l = 0 := by unfold checkE; rw [← Hn.out]; exact hck
      have hB : bytesN l i = encB l := by rw [Hn.out, bytesN_all, encB, if_pos hfin]
      have hbl := bytesN_len Hok.out i (by rw [← Hn.out]; exact hi)
      rw [hB] at hout hbl
      have Hout := Lib.hid hout
      have Hab := Lib.hid hab
      have Hk := Lib.hid hk
      have Hfin := Lib.hid hfin
      have HB := Lib.hid hB
      clear hout hab hk hfin hB
      go_wp2_with fail
      refine (out_bytes p go (encB l) W0 Hout.out (by have : i * 10036 ≤ 10000 * 10036 := Nat.mul_le_mul_right _ (by omega)
                                                      omega)).mono ?_
      rintro e w2 ⟨v, g2, rfl, hr2, ha2, hk2⟩
      have hab2 : Above w.heap.size g2 := ha2.mono Hk.out.size
      have hkk := Hk.out.more hk2
      have Hr2 := Lib.hid hr2
      have Ha2 := Lib.hid ha2
      have Hk2 := Lib.hid hk2
      have Hab2 := Lib.hid hab2
      have Hkk := Lib.hid hkk
      clear hr2 ha2 hk2 hab2 hkk
      go_wp2_with fail
      go_ret2
      exact EncP.yes Hfin.out Hr2.out Hab2.out Hkk.out
end Go.Proofs.YtnlmdfbjmhcilaaDoor
/-
  bytes.TrimRight at one byte; bytes.Equal.
-/
namespace Go.Proofs.YtnlmdfbjmhcilaaDoor
open Go.RowKit Go.Proofs

/-- how many of the first `k` are left when zeros are cut off -/
def trimN (L : List UInt8) : Nat → Nat
  | 0 => 0
  | k + 1 => if L.getD k 0 = 0 then trimN L k else k + 1
theorem trimN_le (L : List UInt8) : ∀ k, trimN L k ≤ k
  | 0 => Nat.le_refl _
  | k + 1 => by
    unfold trimN
    split
    · have := trimN_le L k
      omega
    · exact Nat.le_refl _
set_option maxRecDepth 20000 in
set_option maxHeartbeats 4000000 in
theorem trimByte_any (b o c n : Nat) (g : Option Nat) (L : List UInt8) (w : World) (hr : recB.Rd w (.slice (some ⟨b, o, none⟩) n c) g L) (hn : n = L.length) :
    Calls Tryd.prog 85 #[.slice (some ⟨b, o, none⟩) n c, .int .u8 0] w fun e w' => e = .returned (.slice (some ⟨b, o, none⟩) (trimN L n) c) ∧ w = w' := by
  obtain ⟨A, cap, hv, h1, h2, hu, h3, h4⟩ := hr
  injection hv with e1 e2 e3
  subst e3
  have hcell : ∀ (i : Nat) (x : UInt8), L[i]? = some x → w.cell? ⟨b, o + i, none⟩ = some (bv x) := fun i x hx => by
    obtain ⟨b', o', hA, hg, hc⟩ := h3 (pos_of_get hx)
    rw [hA] at e1
    injection e1 with e1
    injection e1 with e1 e2
    subst e1 e2
    simpa [recB] using hc i x hx 0 (by decide)
  clear h3 h4 hu e1
  unfold maxLen at h2
  obtain ⟨r, hrr⟩ : ∃ r, r = trimN L n := ⟨_, rfl⟩
  rw [← hrr]
  rw [← hn] at h1
  have Hcell := Lib.hid hcell
  have Hn := Lib.hid hn
  have Hrr := Lib.hid hrr
  clear hcell hn hrr
  go_enter Tryd.func85, Tryd.ntmps85
  go_wp2_with fail
  go_loop [0] (fun sv => ∃ k : Nat, sv = .slice (some ⟨b, o, none⟩) k c ∧ k ≤ n ∧ r = trimN L k) (fun sv => (match sv with | .slice _ k _ => k | _ => 0))
  case atStart => exact ⟨n, rfl, Nat.le_refl _, Hrr.out⟩
  case round =>
    obtain ⟨k, rfl, hk, htr⟩ := hrel
    cases k with
    | zero =>
      have ht0 : r = 0 := htr
      have Htr := Lib.hid htr
      clear htr
      subst ht0
      go_wp2_with fail
      go_ret
      exact ⟨rfl, rfl⟩
    | succ k =>
      obtain ⟨x, hxx⟩ : ∃ x, L[k]? = some x := ⟨_, List.getElem?_eq_getElem (by rw [← Hn.out]; omega)⟩
      have c0 := Hcell.out k x hxx
      unfold bv at c0
      have hg : L.getD k 0 = x := by rw [List.getD_eq_getElem?_getD, hxx]; rfl
      have hw1 : IntKind.i64.wrap (((k + 1 : Nat) : Int) - 1) = k := by rw [IntWalk.i64_in _ (by omega)]; omega
      have hk0 : (0 : Int) ≤ k := by omega
      have hkc : (k : Int) ≤ c := by omega
      have hlt : decide ((0 : Int) < ((k + 1 : Nat) : Int)) = true := decide_eq_true (by omega)
      unfold trimN at htr
      rw [hg] at htr
      by_cases hx0 : x = 0
      · rw [if_pos hx0] at htr
        subst hx0
        have Htr := Lib.hid htr
        have Hxx := Lib.hid hxx
        have Hg := Lib.hid hg
        clear htr hxx hg
        go_wp2_with fail
        go_wp2_with fail
        go_roundw
        case rel => exact ⟨k, rfl, by omega, Htr.out⟩
        case measure => simp
      · rw [if_neg hx0] at htr
        have hxF : ((x.toNat : Int) == 0) = false := by
          rw [beq_eq_false_iff_ne]
          intro h
          exact hx0 (UInt8.toNat_inj.1 (by simpa using h))
        have Htr := Lib.hid htr
        have Hxx := Lib.hid hxx
        have Hg := Lib.hid hg
        clear htr hxx hg
        go_wp2_with fail
        go_ret
        exact ⟨by rw [Htr.out]; rfl, rfl⟩
set_option maxRecDepth 20000 in
set_option maxHeartbeats 4000000 in
theorem trimR_any (b o c n : Nat) (g : Option Nat) (L : List UInt8) (w : World) (hr : recB.Rd w (.slice (some ⟨b, o, none⟩) n c) g L) (hn : n = L.length) (h0 : 0 < n) :
    Calls Tryd.prog 59 #[.slice (some ⟨b, o, none⟩) n c, .string { data := #[0] }] w fun e w' => e = .returned (.slice (some ⟨b, o, none⟩) (trimN L n) c) ∧ w = w' := by
  have ht := trimByte_any b o c n g L w hr hn
  have hn0 : ((n : Int) == 0) = false := by rw [beq_eq_false_iff_ne]; omega
  have Hr := Lib.hid hr
  have Hn := Lib.hid hn
  have Ht := Lib.hid ht
  clear hr hn ht
  go_enter Tryd.func59, Tryd.ntmps59
  go_wp2_with fail
  refine Ht.out.mono ?_
  rintro e w' ⟨rfl, rfl⟩
  go_wp2_with fail
  go_ret
  exact ⟨rfl, rfl⟩
set_option maxHeartbeats 1000000 in
theorem bytesEq_any (v v' : Value) (g g' : Option Nat) (L M : List UInt8) (w : World) (hr : Rd w v g (L.map bv)) (hr' : Rd w v' g' (M.map bv)) :
    Calls Tryd.prog 62 #[v, v'] w fun e w' => e = .returned (.bool (decide (L = M))) ∧ w = w' := by
  have q1 := conv_str v g L w hr
  have q2 := conv_str v' g' M w hr'
  have hcmp : ((strOf L).toList == (strOf M).toList) = decide (L = M) := by
    rw [strOf_toList, strOf_toList]
    by_cases h : L = M <;> simp [h]
  go_enter Tryd.func62, Tryd.ntmps62
  go_wp2
  go_ret
  exact ⟨rfl, rfl⟩
end Go.Proofs.YtnlmdfbjmhcilaaDoor
/-
  A region that draws its order, in the body of a range over a function: the script's rule, at the wide fence. No program in sight.
-/
namespace Go.Proofs.YtnlmdfbjmhcilaaDoor
open Go.RowKit

section
variable {P : Program} {ops : Array Oper} {Q : Exit → Act → World → Prop} {l n : Nat}
theorem rowsIn_of {row : String} {args : Array Value} {w : World} {R : Value → World → Prop} (h : Rows P row args w R) : RowsIn (Fence.wide.inRound l) n P row args w R := fun c cs _ =>
  let ⟨v, w', r, s⟩ := h c cs
  ⟨v, w', r, stepsIn_wide.2 s⟩
theorem callsIn_of {f : FuncId} {args : Array Value} {w : World} {R : Ending → World → Prop} (h : Calls P f args w R) : CallsIn (Fence.wide.inRound l) n P f args w R := (callsIn_wide (n := n)).2 h
theorem uponIn_of {o : Oper} {a : Act} {K : Act → World → Prop} (r : Result Next) (h : o.upon P a K Q r) : o.uponIn (Fence.wide.inRound l) n P a K Q r := by
  cases r with
  | ok x w' =>
    cases x <;> simp only [Oper.upon, Oper.uponIn] at h ⊢ <;>
      first
        | exact h
        | exact ⟨(fun hd => by cases hd), callsIn_of h⟩
        | exact ⟨(fun hd => by cases hd), rowsIn_of h⟩
        | exact h.elim
  | halt x w' => cases x <;> simp only [Oper.upon, Oper.uponIn] at h ⊢ <;> exact h
theorem wpOpIn_of {i : Nat} {a : Act} {w : World} {K : Act → World → Prop} (hd : ∀ (i : Nat) (o : Oper), ops[i]? = some o → ∀ c, o.op ≠ .defer c) (hQ : ¬ LetsOut Q) (h : wpOp P ops Q i K a w) : wpOpIn (Fence.wide.inRound l) n P ops Q i K a w := by
  unfold wpOp at h
  unfold wpOpIn
  cases ho : ops[i]? with
  | none => rw [ho] at h; exact h
  | some o =>
    rw [ho] at h
    simp only at h ⊢
    split
    · rename_i hw
      rw [if_pos hw] at h
      rcases h with h | ⟨-, h⟩
      · refine ⟨fun _ _ => trivial, ?_⟩
        rw [show (Fence.wide.inRound l).round = some l from rfl, Oper.semAt_some l _ o (hd i o ho)]
        exact uponIn_of _ h
      · exact absurd h hQ
    · rename_i hw
      rw [if_neg hw] at h
      exact ⟨fun _ _ => trivial, h⟩
theorem wpAnyIn_of (hd : ∀ (i : Nat) (o : Oper), ops[i]? = some o → ∀ c, o.op ≠ .defer c) (hQ : ¬ LetsOut Q) : ∀ (k : Nat) (L : Array Bool) (a : Act) (w : World), wpAny P .any ops Q k L a w → wpAnyIn (Fence.wide.inRound l) n P .any ops Q k L a w
  | 0, _, _, _, h => h
  | k + 1, L, a, w, h => ⟨h.1, fun i hi => wpOpIn_mono (fun a w h' => wpAnyIn_of hd hQ k _ a w h') (wpOpIn_of hd hQ (h.2 i hi))⟩
def notDefer : Op → Bool
  | .defer _ => false
  | _ => true
theorem notDefer_spec (h : ops.all (fun o => notDefer o.op) = true) : ∀ (i : Nat) (o : Oper), ops[i]? = some o → ∀ c, o.op ≠ .defer c := fun i o ho c e => by
  rw [Array.all_eq_true'] at h
  have := h o (Array.mem_of_getElem? ho)
  rw [e] at this
  cases this
/-- THE RULE, in a round -/
theorem wpIn_region_script {id : Nat} {a : Act} {w : World} (F W : List Nat) (s : List Mv) (S : World → Prop) (hm : P.follows .mixedOrders = true) (hQ : ¬ LetsOut Q)
    (hc : (Region.noSelect ops && chk ops F W s (Array.replicate ops.size false) && s.all Mv.full && (s.map Mv.len).sum == ops.size && ops.all (fun o => notDefer o.op)) = true)
    (h : wpS P ops (Q .normal) (NoPanic Q) s S a w.drew) : (Code.region id ops true).wpIn (Fence.wide.inRound l) n P Q a w := by
  simp only [Bool.and_eq_true, beq_iff_eq] at hc
  obtain ⟨⟨⟨⟨h1, h2⟩, h3⟩, h4⟩, h5⟩ := hc
  have hQ' : ¬ LetsOut (NoPanic Q) := fun ⟨a, w, h⟩ => hQ ⟨a, w, NoPanic.imp _ _ _ h⟩
  refine wpIn_mono (wpIn_region_any hm (wpAnyIn_of (notDefer_spec h5) hQ' _ _ _ _ (wpAny_of_N (S := S) (F := F) (W := W) _ _ _ _ ?_))) (fun e a w h => NoPanic.imp e a w h)
  have h0 : need ops F W (Array.replicate ops.size false) = true → S w.drew := fun hn => by
    unfold need at hn
    obtain ⟨f, _, hf⟩ := List.any_eq_true.1 hn
    have : (Array.replicate ops.size false).getD f false = false := by
      rw [Array.getD_eq_getD_getElem?]
      by_cases hk : f < ops.size <;> simp [hk]
    rw [this] at hf
    cases hf
  have := script_all (P := P) (Q := NoPanic Q) h1 (fun _ _ _ c a v w h => h.elim) (fun a w h => h) s S _ a w.drew h2 h3 (closed_start _) h0 h
  rw [h4] at this
  exact this
end
end Go.Proofs.YtnlmdfbjmhcilaaDoor
/-
  A region that draws no order, in the body of a range over a function: by the plain walk. No program in sight.
-/
namespace Go.Proofs.YtnlmdfbjmhcilaaDoor
open Go.RowKit

section
variable {P : Program} {ops : Array Oper} {Q : Exit → Act → World → Prop} {l n : Nat}
theorem wpOpsIn_of (hd : ∀ (i : Nat) (o : Oper), ops[i]? = some o → ∀ c, o.op ≠ .defer c) (hQ : ¬ LetsOut Q) : ∀ (L : List Nat) (a : Act) (w : World), wpOps P ops Q L a w → wpOpsIn (Fence.wide.inRound l) n P ops Q L a w
  | [], _, _, h => h
  | i :: rest, a, w, h => by
    have ih := wpOpsIn_of hd hQ rest
    simp only [wpOps] at h
    simp only [wpOpsIn]
    cases ho : ops[i]? with
    | none => rw [ho] at h; exact ih _ _ h
    | some o =>
      rw [ho] at h
      simp only at h ⊢
      split
      · rename_i hw
        rw [if_pos hw] at h
        rcases h with h | ⟨-, h⟩
        · have h1 : wpOp P ops Q i (fun a w => wpOps P ops Q rest a w) a w := by
            unfold wpOp
            rw [ho]
            simp only
            rw [if_pos hw]
            exact .inl h
          have h2 := wpOpIn_of (l := l) (n := n) hd hQ h1
          have h3 := wpOpIn_mono (fun a w h' => ih a w h') h2
          unfold wpOpIn at h3
          rw [ho] at h3
          simp only at h3
          rw [if_pos hw] at h3
          exact h3
        · exact absurd h hQ
      · rename_i hw
        rw [if_neg hw] at h
        exact ⟨fun _ _ => trivial, ih _ _ h⟩
theorem wpIn_region_plain {id : Nat} {L : List Oper} {a : Act} {w : World} (hQ : ¬ LetsOut Q) (hc : L.toArray.all (fun o => notDefer o.op) = true)
    (h : ∀ K : Act → World → Prop, (∀ a w, Q .normal a w → K a w) → wpList P L.toArray (Exit.then K (NoPanic Q)) L a w) : (Code.region id L.toArray false).wpIn (Fence.wide.inRound l) n P Q a w := by
  have hQ' : ¬ LetsOut (Exit.then (Q .normal) (NoPanic Q)) := fun ⟨a, w, h⟩ => hQ ⟨a, w, NoPanic.imp _ _ _ h⟩
  have h1 := h (Q .normal) (fun _ _ h => h)
  rw [← wpOps_eq_wpList L 0 (by simp)] at h1
  have h2 := wpOpsIn_of (l := l) (n := n) (notDefer_spec hc) hQ' _ _ _ h1
  have h3 : (Code.region id L.toArray false).wpIn (Fence.wide.inRound l) n P (Exit.then (Q .normal) (NoPanic Q)) a w := wpIn_region (by rw [List.range_eq_range', List.size_toArray]; exact h2)
  refine wpIn_mono h3 (fun e a w h => ?_)
  cases e <;> first | exact h | exact NoPanic.imp _ _ _ h
end
end Go.Proofs.YtnlmdfbjmhcilaaDoor
/-
  slices.Chunk at bytes, of whole pieces: the iterator.
-/
namespace Go.Proofs.YtnlmdfbjmhcilaaDoor
open Go.Proofs Go.RowKit Go.Shelf

attribute [local go_sem] Oper.semAt_some

/-- the first `k` of the pieces' numbers -/
def firsts (n k : Nat) : List (Fin n) := (List.finRange n).take k
theorem firsts_succ {n k : Nat} (h : k < n) : firsts n (k + 1) = firsts n k ++ [⟨k, h⟩] := by
  unfold firsts
  rw [List.take_add_one]
  congr 1
  rw [List.getElem?_eq_getElem (by simpa using h)]
  simp
theorem firsts_len {n k : Nat} (h : k ≤ n) : (firsts n k).length = k := by simp [firsts, h]
theorem firsts_all (n : Nat) : firsts n n = List.finRange n := List.take_of_length_le (by simp)
def pieceV (b o z i : Nat) : Value := .slice (some ⟨b, o + i, none⟩) z z
/-- the two boxes of the iterator are as they were -/
def KpC (B1 B2 : Nat) (W W' : World) : Prop := W'.cell? ⟨B1, 0, none⟩ = W.cell? ⟨B1, 0, none⟩ ∧ W'.cell? ⟨B2, 0, none⟩ = W.cell? ⟨B2, 0, none⟩
theorem KpC.t {B1 B2 : Nat} {A B C : World} (h : KpC B1 B2 A B) (k : KpC B1 B2 B C) : KpC B1 B2 A C := ⟨k.1.trans h.1, k.2.trans h.2⟩

set_option maxRecDepth 100000 in
set_option maxHeartbeats 4000000 in
theorem chunk1_in (A : Option Addr) (m l B1 B2 b o c n z : Nat) (hA : 0 < n → A = some ⟨b, o, none⟩) (hz : 0 < z) (hnz : n * z ≤ 100000000) (J Jx : List (Fin n) → World → Prop)
    (hY : ∀ pre x W, J pre W → pre.length < n → YieldAt Fence.wide (m - 1) Tryd.prog l #[pieceV b o z (x.val * z)] W fun e W' =>
      (e = .returned (.bool true) ∧ J (pre ++ [x]) W' ∧ KpC B1 B2 W W') ∨ (e = .returned (.bool false) ∧ Jx (pre ++ [x]) W'))
    (W : World) (h1 : W.cell? ⟨B1, 0, none⟩ = some (.slice A (n * z) c)) (hc : n * z ≤ c) (hcm : c ≤ maxLen) (h2 : W.cell? ⟨B2, 0, none⟩ = some (.int .i64 z)) (h0 : J [] W) (hJd : ∀ pre W, J pre W → J pre W.drew) :
    CallsIn Fence.wide m Tryd.prog 84 #[.func (.yield l) #[] #[], .pointer (some ⟨B1, 0, none⟩), .pointer (some ⟨B2, 0, none⟩)] W fun e W' => (∃ v, e = .returned v) ∧
      ((∃ ys, ys = List.finRange n ∧ J ys W') ∨ (∃ pre, True ∧ Jx pre W')) := by
  refine callsIn_of_wp Tryd.func84 rfl trivial ?_ rfl
  simp only [Tryd.ntmps84, List.size_toArray, List.length_cons, List.length_nil, Nat.reduceAdd, Nat.reduceSub, Array.replicate_succ, Array.replicate_zero, List.push_toArray, List.append_toArray, List.nil_append, List.cons_append]
  obtain ⟨N, hN⟩ : ∃ N, N = n * z := ⟨_, rfl⟩
  rw [← hN] at h1 hc hnz
  unfold maxLen at hcm
  gi_wp2
  gi_loopw [4] (fun iv wr => ∃ k i : Nat, iv = .int .i64 i ∧ i = k * z ∧ k ≤ n ∧ J (firsts n k) wr ∧ wr.cell? ⟨B1, 0, none⟩ = some (.slice A N c) ∧ wr.cell? ⟨B2, 0, none⟩ = some (.int .i64 z))
    (fun iv _ => n * z - (intOf iv).toNat)
  case atStart => exact ⟨0, 0, rfl, by simp, Nat.zero_le _, h0, h1, h2⟩
  case round =>
    obtain ⟨k, i, rfl, hi, hk, hJs, g1, g2⟩ := hrel
    by_cases hlt : k < n
    · have hA' := hA (by omega)
      rw [hA'] at g1
      have HA' := Lib.hid hA'
      clear hA'
      have hiN : i + z ≤ N := by
        rw [hN, hi, ← Nat.succ_mul]
        exact Nat.mul_le_mul_right _ hlt
      have hlt1 : (i : Int) < N := by omega
      have hi0 : (0 : Int) ≤ (i : Int) := by omega
      have hle : (i : Int) ≤ (N : Int) := by omega
      have hle2 : i ≤ N := by omega
      have hci : ¬ c = i := by omega
      obtain ⟨M, hM⟩ : ∃ M, M = N - i := ⟨_, rfl⟩
      have hzM : z ≤ M := by omega
      have hzM2 : (z : Int) ≤ (M : Int) := by omega
      have hmin : min (z : Int) (M : Int) = z := by omega
      have hNc : (N : Int) ≤ (c : Int) := by omega
      have e1 : IntKind.i64.wrap ((i : Int) + z) = ((i + z : Nat) : Int) := by rw [IntWalk.i64_in _ (by omega)]; omega
      clear h1 h2
      have HN := Lib.hid hN
      have Hi := Lib.hid hi
      have HM := Lib.hid hM
      clear hN hi hM
      have hJd2 := hJd _ _ hJs
      have q1 : ∀ w', w' = wr.drew → w'.cell? ⟨B1, 0, none⟩ = some (.slice (some ⟨b, o, none⟩) N c) := fun w' e => by rw [e]; exact g1
      have q2 : ∀ w', w' = wr.drew → w'.cell? ⟨B2, 0, none⟩ = some (.int .i64 z) := fun w' e => by rw [e]; exact g2
      gi_wp2
      refine wpIn_wide.2 ?_
      refine wp_region_script [0, 1, 2, 3, 4, 5, 6] [0, 1] [.fs [0], .fs [1], .ps [2, 3, 4], .ps [5, 6]] (fun w' => w' = wr.drew) rfl (by kernel_rfl) ?_
      refine wpS_fs rfl (rfl) fun K hK => ?_
      simp only [List.map_cons, List.map_nil, Option.getD_some, List.getElem?_toArray, List.getElem?_cons_zero, List.getElem?_cons_succ]
      iterate 1 (first | (apply quietO_cons _ rfl; (intro w' hs; have c_0 := q2 w' hs; go_simp; rfl)) | apply quietO_skip rfl)
      refine hK _ ?_
      clear hK K
      simp only [Act.put, List.setIfInBounds_toArray, List.set_cons_zero, List.set_cons_succ]
      refine wpS_fs rfl (rfl) fun K hK => ?_
      simp only [List.map_cons, List.map_nil, Option.getD_some, List.getElem?_toArray, List.getElem?_cons_zero, List.getElem?_cons_succ]
      iterate 1 (first | (apply quietO_cons _ rfl; (intro w' hs; have c_0 := q1 w' hs; go_simp; rfl)) | apply quietO_skip rfl)
      refine hK _ ?_
      clear hK K
      simp only [Act.put, List.setIfInBounds_toArray, List.set_cons_zero, List.set_cons_succ]
      refine wpS_ps rfl fun K hK => ?_
      simp only [List.map_cons, List.map_nil, Option.getD_some, List.getElem?_toArray, List.getElem?_cons_zero, List.getElem?_cons_succ]
      iterate 3 (first | (apply quietO_cons _ rfl; (intro w' _; go_simp; rfl)) | apply quietO_skip rfl)
      refine hK _ ?_
      clear hK K
      simp only [Act.put, List.setIfInBounds_toArray, List.set_cons_zero, List.set_cons_succ]
      rw [← HM.out]
      refine wpS_ps rfl fun K hK => ?_
      simp only [List.map_cons, List.map_nil, Option.getD_some, List.getElem?_toArray, List.getElem?_cons_zero, List.getElem?_cons_succ]
      iterate 2 (first | (apply quietO_cons _ rfl; (intro w' _; go_simp; rfl)) | apply quietO_skip rfl)
      refine hK _ ?_
      clear hK K
      simp only [Act.put, List.setIfInBounds_toArray, List.set_cons_zero, List.set_cons_succ]
      refine wpS_nil ?_
      have hYi := hY _ ⟨k, hlt⟩ wr.drew hJd2 (by rw [firsts_len hk]; exact hlt)
      simp only at hYi
      rw [← Hi.out] at hYi
      obtain ⟨fn, tmps, assign, body, hy, hR⟩ := hYi
      unfold pieceV at hy
      clear q1 q2 hY
      gi_wp2
      refine ⟨(fun h => by cases h), hR.mono ?_⟩
      rintro e W3 (⟨rfl, hJ3, hk3⟩ | ⟨rfl, hJx3⟩)
      · have g1' := hk3.1.trans g1
        have g2' := hk3.2.trans g2
        clear hR hy g1 g2
        gi_wp2
        go_roundw
        case rel => exact ⟨k + 1, i + z, by simp, by rw [Hi.out, Nat.succ_mul], by omega, by rw [firsts_succ hlt]; exact hJ3, by rw [HA'.out]; exact g1', g2'⟩
        case measure =>
          have := HN.out
          simp [intOf]
          omega
      · clear hR hy
        gi_wp2
        refine bodyPost_ret (results_none rfl _ _ _) rfl ?_
        exact ⟨⟨_, rfl⟩, .inr ⟨_, trivial, hJx3⟩⟩
    · obtain rfl : k = n := by omega
      have hiI : ¬ (i : Int) < N := by rw [hN, hi]; omega
      clear h1 h2
      have HN := Lib.hid hN
      have Hi := Lib.hid hi
      clear hN hi
      gi_wp2
      go_end0
      exact ⟨⟨_, rfl⟩, .inl (by rw [← firsts_all]; exact hJs)⟩
theorem grownBy_drew (W : World) : W.grownBy W.drew none := ⟨rfl, rfl, rfl, Nat.le_refl _, fun _ _ _ => rfl⟩
theorem chunk_stopsA (A : Option Addr) (m B1 B2 b o c n z : Nat) (w : World) (hA : 0 < n → A = some ⟨b, o, none⟩) (hz : 0 < z) (hnz : n * z ≤ 100000000) (hc : n * z ≤ c) (hcm : c ≤ maxLen) (l1 : B1 < w.heap.size) (l2 : B2 < w.heap.size) (h1 : w.cell? ⟨B1, 0, none⟩ = some (.slice A (n * z) c)) (h2 : w.cell? ⟨B2, 0, none⟩ = some (.int .i64 z)) :
    SeqStopsK Fence.wide m Tryd.prog 84 #[.pointer (some ⟨B1, 0, none⟩), .pointer (some ⟨B2, 0, none⟩)] (fun x : Fin n => #[pieceV b o z (x.val * z)]) (KpC B1 B2) (fun ys => ys = List.finRange n) (fun _ => True) n w := fun l J Jx W hW hJ _ hY h0 =>
  chunk1_in A m l B1 B2 b o c n z hA hz hnz J Jx hY W ((hW.cell (p := ⟨B1, 0, none⟩) l1).trans h1) hc hcm ((hW.cell (p := ⟨B2, 0, none⟩) l2).trans h2) h0 (fun pre W' h => hJ pre W' W'.drew none h (grownBy_drew W') (fun r e => by cases e))
theorem chunk_stops (m B1 B2 b o c n z : Nat) (w : World) (hz : 0 < z) (hnz : n * z ≤ 100000000) (hc : n * z ≤ c) (hcm : c ≤ maxLen) (l1 : B1 < w.heap.size) (l2 : B2 < w.heap.size) (h1 : w.cell? ⟨B1, 0, none⟩ = some (.slice (some ⟨b, o, none⟩) (n * z) c)) (h2 : w.cell? ⟨B2, 0, none⟩ = some (.int .i64 z)) :
    SeqStopsK Fence.wide m Tryd.prog 84 #[.pointer (some ⟨B1, 0, none⟩), .pointer (some ⟨B2, 0, none⟩)] (fun x : Fin n => #[pieceV b o z (x.val * z)]) (KpC B1 B2) (fun ys => ys = List.finRange n) (fun _ => True) n w := 
  chunk_stopsA _ m B1 B2 b o c n z w (fun _ => rfl) hz hnz hc hcm l1 l2 h1 h2
set_option maxHeartbeats 1000000 in
theorem chunk_any (A : Option Addr) (N c z : Nat) (w : World) (hz : 0 < z) : Calls Tryd.prog 58 #[.slice A N c, .int .i64 z] w fun e w' =>
    e = .returned (.func (.func 84) #[] #[.pointer (some ⟨w.heap.size, 0, none⟩), .pointer (some ⟨w.heap.size + 1, 0, none⟩)]) ∧ w' = (w.alloc (.cells #[.slice A N c] 25)).alloc (.cells #[.int .i64 z] 3) := by
  have hz1 : ¬ (z : Int) < 1 := by omega
  go_enter Tryd.func58, Tryd.ntmps58
  go_wp2
  go_ret
  exact ⟨rfl, rfl⟩
end Go.Proofs.YtnlmdfbjmhcilaaDoor
/-
  num.In: what is read. Of, cut, the deferred 'caught', Take, Raw, Left, Err.
-/
namespace Go.Proofs.YtnlmdfbjmhcilaaDoor
open Go.RowKit

/-- At block `p` an In lies that has still to read `L`; `err` is its error. -/
def InAt (w : World) (p : Nat) (g : Option Nat) (L : List UInt8) (err : Int) : Prop :=
  ∃ v, Blk w p 140 #[v, .int .i64 err] ∧ Rd w v g (L.map bv) ∧ g ≠ some p

theorem InAt.keep {w w' : World} {p : Nat} {g : Option Nat} {L : List UInt8} {err : Int} {S : Nat → Prop} (h : InAt w p g L err) (hk : Keeps S w w') (hp : ¬ S p) (hg : ∀ b, g = some b → ¬ S b) : InAt w' p g L err := by
  obtain ⟨v, hb, hr, hn⟩ := h
  exact ⟨v, hb.keep hk hp, hr.keep hk hg, hn⟩
theorem InAt.lt {w : World} {p : Nat} {g : Option Nat} {L : List UInt8} {err : Int} (h : InAt w p g L err) : p < w.heap.size ∧ ∀ b, g = some b → b < w.heap.size := by
  obtain ⟨v, hb, hr, _⟩ := h
  exact ⟨hb.lt, hr.lt⟩

/-- what Left tells -/
def leftOf (err : Int) (L : List UInt8) : Int := if err = 0 then L.length else 0

set_option maxHeartbeats 400000 in
theorem in_of (v : Value) (g : Option Nat) (L : List UInt8) (w : World) (hr : Rd w v g (L.map bv)) (hb : L.length ≤ 140737488351232) :
    Calls Tryd.prog 60 #[v] w fun e w' => ∃ p g', e = .returned (.pointer (some ⟨p, 0, none⟩)) ∧ InAt w' p g' L 0 ∧ w.heap.size ≤ p ∧ Above w.heap.size g' ∧ Keeps nowhere w w' := by
  have Hr := Lib.hid hr
  clear hr
  go_enter Tryd.func60, Tryd.ntmps60
  go_wp2_with fail
  refine (clone_any _ _ L _ Hr.out hb).mono ?_
  rintro e w1 ⟨v1, g1, rfl, hr1, hf1, hk1⟩
  obtain ⟨A, c, rfl, _⟩ := hr1.form
  have Hr1 := Lib.hid hr1
  have Hf1 := Lib.hid hf1
  have Hk1 := Lib.hid hk1
  clear hr1 hf1 hk1
  go_wp2_with fail
  go_ret
  have hs := Hk1.out.size
  refine ⟨w1.heap.size, g1, rfl, ⟨_, Blk.new _ _ _, ?_, fun e => ?_⟩, hs, Hf1.out, Hk1.out.alloc _⟩
  · simpa using Hr1.out.keep (S := nowhere) ((Keeps.refl _ w1).alloc (.cells #[.slice A L.length c, .int .i64 0] 140)) (fun _ _ h => h)
  · exact absurd (Hr1.out.lt _ e) (Nat.lt_irrefl _)
end Go.Proofs.YtnlmdfbjmhcilaaDoor
/-
  num.In's deferred 'caught', and 'cut'.
-/
namespace Go.Proofs.YtnlmdfbjmhcilaaDoor
open Go.RowKit

set_option maxHeartbeats 400000 in
theorem caught_idle (p : Nat) (w : World) :
    CallsD Tryd.prog 89 #[.pointer (some ⟨p, 0, none⟩)] .returning w fun e u' w' => e = .returned (.tuple #[]) ∧ u' = .returning ∧ w' = w := by
  refine callsD_of_wpS Tryd.func89 rfl fun c₀ cs hu => ?_
  apply wpS_seq
  apply wpS_region
  simp [wpOpsS, go_sem, recoverD, hu, Tryd.ntmps89, Exit.thenS, Array.replicate_succ]
  refine wpS_of_wp ?_
  go_wp2
  cases c₀
  simp_all [bodyPostS, results, Tryd.results89]

set_option maxHeartbeats 400000 in
theorem caught_panic (p : Nat) (x : Int) (v : Value) (y : Int) (older : List PanicEntry) (w : World) (hb : Blk w p 140 #[v, .int .i64 y]) :
    CallsD Tryd.prog 89 #[.pointer (some ⟨p, 0, none⟩)] (.panicking ({ v := .iface 26 (.int .i64 x), recovered := false } :: older)) w fun e u' w' =>
      e = .returned (.tuple #[]) ∧ u' = .panicking ({ v := .iface 26 (.int .i64 x), recovered := true } :: older) ∧ w' = w.setCell ⟨p, 1, none⟩ (.int .i64 x) := by
  have hc1 := hb.cell 1
  have hf1 := hb.frozen 1
  simp at hc1
  clear hb
  have hta : ∀ w, (Instr.typeAssert (.iface 26 (.int .i64 x)) 20 26 true).run Tryd.prog w = .ok (.tuple #[.int .i64 x, .bool true]) w := fun _ => by kernel_rfl
  refine callsD_of_wpS Tryd.func89 rfl fun c₀ cs hu => ?_
  apply wpS_seq
  apply wpS_region
  simp [wpOpsS, go_sem, recoverD, hu, Tryd.ntmps89, Exit.thenS, Array.replicate_succ]
  refine wpS_of_wp ?_
  go_wp2
  simp [bodyPostS, results, Tryd.results89]

/-- a panic with an error of the program's own -/
def panicErr (x : Int) : Ending := .panicked [{ v := .iface 26 (.int .i64 x), recovered := false }]

def RetCut (w : World) (p : Nat) (g : Option Nat) (L : List UInt8) (n : Nat) (err : Int) : Ending → World → Prop := fun e w' =>
  ∃ v', e = .returned v' ∧ Rd w' v' g ((L.take n).map bv) ∧ InAt w' p g (L.drop n) err ∧ Keeps (only p) w w'

set_option maxHeartbeats 400000 in
theorem cut_short (p : Nat) (g : Option Nat) (L : List UInt8) (err : Int) (n : Int) (w : World) (h : InAt w p g L err) (hn : L.length < n) :
    Calls Tryd.prog 90 #[.pointer (some ⟨p, 0, none⟩), .int .i64 n] w fun e w' => e = panicErr 4 ∧ w = w' := by
  obtain ⟨v, hb, hr, _⟩ := h
  have hc0 := hb.cell 0
  simp at hc0
  obtain ⟨A, c, rfl, _⟩ := hr.form
  rw [List.length_map] at hc0
  have hmi : ∀ w, (Instr.makeInterface 26 (.int .i64 4)).run Tryd.prog w = .ok (.iface 26 (.int .i64 4)) w := fun _ => by kernel_rfl
  clear hr hb
  go_enter Tryd.func90, Tryd.ntmps90
  go_wp2
  exact ⟨rfl, rfl, rfl⟩

set_option maxHeartbeats 400000 in
theorem cut_ok (p : Nat) (g : Option Nat) (L : List UInt8) (err : Int) (n : Nat) (w : World) (h : InAt w p g L err) (hn : n ≤ L.length) :
    Calls Tryd.prog 90 #[.pointer (some ⟨p, 0, none⟩), .int .i64 n] w (RetCut w p g L n err) := by
  obtain ⟨v, hb, hr, hgp⟩ := h
  have hc0 := hb.cell 0
  have hf0 := hb.frozen 0
  simp at hc0
  obtain ⟨A, c, rfl, hlc, hcm⟩ := hr.form
  have hk := (Keeps.refl (only p) w).setCell (p := ⟨p, 0, none⟩) (fun _ => rfl) (.slice (if c = n then A else A.map (·.add (n * 1))) (L.length - n) (c - n))
  have ht := (hr.take n (by simpa using hn) A _ c rfl).keep hk (fun b hb e => hgp (by rw [hb]; exact congrArg some e))
  have hd := (hr.drop n (by simpa using hn) A _ c rfl).keep hk (fun b hb e => hgp (by rw [hb]; exact congrArg some e))
  have hset := hb.set_ 0 (.slice (if c = n then A else A.map (·.add (n * 1))) (L.length - n) (c - n))
  have hfin : RetCut w p g L n err (.returned (.slice A n c)) (w.setCell ⟨p, 0, none⟩ (.slice (if c = n then A else A.map (·.add (n * 1))) (L.length - n) (c - n))) := by
    refine ⟨_, rfl, by rw [List.map_take]; exact ht, ⟨_, by simpa using hset, ?_, hgp⟩, hk⟩
    rw [List.map_drop]
    simpa using hd
  rw [List.length_map] at hc0 hlc
  have Hfin := Lib.hid hfin
  unfold maxLen at hcm
  clear hr hb ht hd hset hk hfin
  have hn1 : ¬ (L.length : Int) < n := by omega
  have hn2 : (n : Int) ≤ L.length := by omega
  have hn3 : (n : Int) ≤ c := by omega
  by_cases hcn : c = n
  · subst hcn
    go_enter Tryd.func90, Tryd.ntmps90
    go_wp2
    go_ret
    have h0 : L.length - c = 0 := by omega
    have hf := Hfin.out
    simp only [if_true, Nat.sub_self, h0] at hf
    exact hf
  · go_enter Tryd.func90, Tryd.ntmps90
    go_wp2
    go_ret
    have hf := Hfin.out
    simp only [if_neg hcn, Nat.mul_one] at hf
    exact hf
end Go.Proofs.YtnlmdfbjmhcilaaDoor
