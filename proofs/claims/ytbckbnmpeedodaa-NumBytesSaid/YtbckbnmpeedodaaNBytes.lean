/-
  loggialaw1.NumBytes: the walk.
-/
import Derived.Test.YtbckbnmpeedodaaItems
import Derived.Test.YtbckbnmpeedodaaNumStr
namespace Go.Proofs.Ytbckbnmpeedodaa
open Go.RowKit

def two (p q : Nat) : Nat → Prop := fun b => b = p ∨ b = q

set_option maxHeartbeats 1000000 in
theorem bytes_long (A B : Option Addr) (m n c d : Nat) (hn : 1000 < m ∨ 60 < n) (hm : m ≤ 9223372036854775807) (hm' : n ≤ 9223372036854775807) (w : World) :
    Calls Try.prog 6 #[.slice A m c, .slice B n d] w (Yes w) := by
  go_enter Try.func6, Try.ntmps6
  go_wp2_with fail
  refine (known1 _).mono ?_
  rintro e w0 ⟨rfl, hk0⟩
  have Hk0 := Lib.hid hk0
  clear hk0
  by_cases h1 : 1000 < m
  · have h1' : (1000 : Int) < m := by omega
    go_wp2_with fail
    go_ret
    exact ⟨rfl, Hk0.out⟩
  · have h1' : ¬ (1000 : Int) < m := by omega
    have h2' : (60 : Int) < n := by omega
    go_wp2_with fail
    go_ret
    exact ⟨rfl, Hk0.out⟩

theorem two_p (p q : Nat) : ∀ b, only p b → two p q b := fun _ h => .inl h
theorem two_q (p q : Nat) : ∀ b, only q b → two p q b := fun _ h => .inr h
theorem raw_len (L : List UInt8) (e n : Int) : (rawLeft L e n).length ≤ L.length := by unfold rawLeft; split <;> simp
theorem take_len (L : List UInt8) (e n : Int) : (takeLeft L e n).length ≤ L.length := by unfold takeLeft; split <;> simp

set_option maxHeartbeats 4000000 in
theorem bytes_walk (A : Option Addr) (its : List It) (c : Nat) (vb : Value) (gb : Option Nat) (B : List UInt8) (hB : B.length ≤ 1000) (hn : its.length ≤ 60) (w : World) (hb : Rd w vb gb (B.map bv)) (hA : IArr w A its) :
    Calls Try.prog 6 #[vb, .slice A its.length c] w (Yes w) := by
  have h1 : decide ((1000 : Int) < B.length) = false := by simp; omega
  have h2 : decide ((60 : Int) < its.length) = false := by simp; omega
  have hgb := hb.lt
  obtain ⟨AB, cB, rfl, _⟩ := hb.form
  rw [List.length_map] at hb ⊢
  have HA := Lib.hid hA
  have Hb := Lib.hid hb
  have Hgb := Lib.hid hgb
  clear hA hb hgb
  go_enter Try.func6, Try.ntmps6
  go_wp2_with fail
  refine (known1 _).mono ?_
  rintro e w1 ⟨rfl, hk1⟩
  have hb1 := Hb.out.keep hk1 (fun _ _ h => h)
  have Hk1 := Lib.hid hk1
  have Hb1 := Lib.hid hb1
  clear hk1 hb1
  go_wp2_with fail
  refine (in_of _ _ B _ Hb1.out (by omega)).mono ?_
  rintro e w2 ⟨p, gd, rfl, hi2, hp2, hg2, hk2⟩
  have hk2' := Hk1.out.more hk2
  have hb2 := Hb1.out.keep hk2 (fun _ _ h => h)
  have hpw : Hid (w.heap.size ≤ p) := Nat.le_trans Hk1.out.size hp2
  have hplt := hi2.lt
  have hgdw : Hid (Above w.heap.size gd) := hg2.mono Hk1.out.size
  clear hk2 hp2 hg2
  have Hi2 := Lib.hid hi2
  have Hk2' := Lib.hid hk2'
  have Hb2 := Lib.hid hb2
  have Hplt := Lib.hid hplt
  clear hi2 hk2' hb2 hplt
  go_wp2_with fail
  have hr3 : RIn (w2.alloc (.cells #[.slice AB B.length cB, .int .i64 0, .int .i64 0] 58)) w2.heap.size gb B 0 :=
    ⟨_, B, 0, Blk.new _ _ _, Hb2.out.keep (S := nowhere) ((Keeps.refl _ w2).alloc _) (fun _ _ h => h), fun e => absurd (Hgb.out _ e) (by have := Hk2'.out.size; omega), Nat.zero_le _, by simp, by omega⟩
  have hi3 := Hi2.out.keep (S := nowhere) ((Keeps.refl _ w2).alloc (.cells #[.slice AB B.length cB, .int .i64 0, .int .i64 0] 58)) (fun h => h) (fun _ _ h => h)
  have hk3 := Hk2'.out.alloc (.cells #[.slice AB B.length cB, .int .i64 0, .int .i64 0] 58)
  have hqw : Hid (w.heap.size ≤ w2.heap.size) := Hk2'.out.size
  obtain ⟨q, hq⟩ : ∃ q, q = w2.heap.size := ⟨_, rfl⟩
  rw [← hq] at hr3
  have hpq : Hid (p ≠ q ∧ ∀ b, gd = some b → b ≠ q) := ⟨by have := Hplt.out.1; omega, fun b hb => by have := Hplt.out.2 b hb; omega⟩
  have hqw' : Hid (w.heap.size ≤ q) := by rw [hq]; exact hqw
  rw [← hq]
  clear hq hqw
  generalize w2.alloc (.cells #[.slice AB B.length cB, .int .i64 0, .int .i64 0] 58) = w3 at *
  have Hr3 := Lib.hid hr3
  have Hi3 := Lib.hid hi3
  have Hk3 := Lib.hid hk3
  clear hr3 hi3 hk3
  go_loopw [7, 8] (fun i _ wr => ∃ (k : Nat) (L : List UInt8) (err : Int), k ≤ its.length ∧ i = .int .i64 k ∧ InAt wr p gd L err ∧ RIn wr q gb L err ∧ L.length ≤ 1000 ∧ Keeps nowhere w wr) (fun i _ _ => its.length - (intOf i).toNat)
  case atStart => exact ⟨0, B, 0, Nat.zero_le _, rfl, Hi3.out, Hr3.out, hB, Hk3.out⟩
  case round =>
    obtain ⟨k, L, err, hk, rfl, hi, hr, hL, hkp⟩ := hrel
    by_cases hlt : k < its.length
    · obtain ⟨b, off, rfl, hbw, hc⟩ := HA.out (by omega)
      obtain ⟨t, ht⟩ : ∃ t, its[k]? = some t := ⟨its[k], List.getElem?_eq_getElem hlt⟩
      obtain ⟨⟨hn0, hv0⟩, _, _, c0, c1, _⟩ := hc k t ht
      have hbs : ¬ two p q b := fun h => by have := hpw.out; have := hqw'.out; unfold two at h; omega
      have hbl : b < wr.heap.size := Nat.lt_of_lt_of_le hbw hkp.size
      have d0 : wr.cell? ⟨b, off + k * 4, none⟩ = some (.bool t.is_) := (hkp.cell (p := ⟨b, off + k * 4, none⟩) hbw (fun h => h)).trans c0
      have cell1 : ∀ w', Keeps (two p q) wr.drew w' → w'.cell? ⟨b, off + k * 4 + 1, none⟩ = some (.int .i64 t.n) := fun w' hs => (hs.cell (p := ⟨b, off + k * 4 + 1, none⟩) hbl hbs).trans ((hkp.cell (p := ⟨b, off + k * 4 + 1, none⟩) hbw (fun h => h)).trans c1)
      have hi0 : (0 : Int) ≤ (k : Int) := by omega
      have hi1 : (k : Int) < its.length := by omega
      clear c0 c1 hc
      have Hi := Lib.hid hi
      have Hr := Lib.hid hr
      have Hkp := Lib.hid hkp
      have Cell1 := Lib.hid cell1
      clear hi hr hkp cell1
      cases hts : t.is_ with
      | true =>
        rw [hts] at d0
        go_wp2_with fail
        refine wp_region_script [0, 1, 2, 3, 4, 5, 7, 8, 9, 10, 11, 12, 13, 16, 17] [5, 7, 13] [.ps [0, 1, 2, 3, 4], .fs [5], .ps [8, 9, 10, 11, 12], .fs [13], .es [6] true, .fs [7], .es [14] true, .es [15] true, .ps [16, 17]] (Keeps (two p q) wr.drew) rfl (by kernel_rfl) ?_
        refine wpS_ps rfl fun K hK => ?_
        simp only [List.map_cons, List.map_nil, Option.getD_some, List.getElem?_toArray, List.getElem?_cons_zero, List.getElem?_cons_succ]
        iterate 5 (first | (apply quietO_cons _ rfl; (intro w' _; go_simp; rfl)) | apply quietO_skip rfl)
        refine hK _ ?_
        clear hK K
        simp only [Act.put, List.setIfInBounds_toArray, List.set_cons_zero, List.set_cons_succ]
        refine wpS_fs rfl (Keeps.refl _ _) fun K hK => ?_
        simp only [List.map_cons, List.map_nil, Option.getD_some, List.getElem?_toArray, List.getElem?_cons_zero, List.getElem?_cons_succ]
        iterate 1 (first | (apply quietO_cons _ rfl; (intro w' hs; have c_0 := Cell1.out w' hs; go_simp; rfl)) | apply quietO_skip rfl)
        refine hK _ ?_
        clear hK K
        simp only [Act.put, List.setIfInBounds_toArray, List.set_cons_zero, List.set_cons_succ]
        refine wpS_ps rfl fun K hK => ?_
        simp only [List.map_cons, List.map_nil, Option.getD_some, List.getElem?_toArray, List.getElem?_cons_zero, List.getElem?_cons_succ]
        iterate 5 (first | (apply quietO_cons _ rfl; (intro w' _; go_simp; rfl)) | apply quietO_skip rfl)
        refine hK _ ?_
        clear hK K
        simp only [Act.put, List.setIfInBounds_toArray, List.set_cons_zero, List.set_cons_succ]
        refine wpS_fs rfl (Keeps.refl _ _) fun K hK => ?_
        simp only [List.map_cons, List.map_nil, Option.getD_some, List.getElem?_toArray, List.getElem?_cons_zero, List.getElem?_cons_succ]
        iterate 1 (first | (apply quietO_cons _ rfl; (intro w' hs; have c_0 := Cell1.out w' hs; go_simp; rfl)) | apply quietO_skip rfl)
        refine hK _ ?_
        clear hK K
        simp only [Act.put, List.setIfInBounds_toArray, List.set_cons_zero, List.set_cons_succ]
        refine wpS_es rfl fun K hK => ?_
        have HK := Lib.hid hK
        clear hK
        simp only [List.map_cons, List.map_nil, Option.getD_some, List.getElem?_toArray, List.getElem?_cons_zero, List.getElem?_cons_succ]
        go_wp2_with fail
        refine (raw_any _ _ _ _ _ wr.drew (by exact Hi.out) (by omega)).mono ?_
        rintro e w6 ⟨v6, g6, rfl, hr6, hg6, hi6, hk6⟩
        have hr6q := (RIn.keep (w := wr.drew) Hr.out hk6 (fun e => hpq.out.1 (by unfold only at e; exact e.symm)) (fun b hb e => by have := Hgb.out b hb; have := hpw.out; unfold only at e; omega))
        have hn6 : ∀ b, g6 = some b → ¬ two p q b := fun b hb e => by
          have := hg6 b hb; have h1 := Hi.out.lt.1; have h2 := Hr.out.choose_spec.choose_spec.choose_spec.1.lt
          rcases e with e | e <;> subst e <;> exact absurd this (by simp; omega)
        have hkp6 := Hkp.out.drew.fresh hk6 hpw.out
        have Hr6 := Lib.hid hr6
        have Hi6 := Lib.hid hi6
        have Hk6 := Lib.hid hk6
        have Hr6q := Lib.hid hr6q
        have Hn6 := Lib.hid hn6
        have Hkp6 := Lib.hid hkp6
        clear hr6 hi6 hk6 hr6q hn6 hkp6
        clear hg6
        go_wp2_with fail
        refine HK.out _ _ (fun _ => Hk6.out.mono (fun b _ h => two_p p q b h)) ?_
        clear HK K
        have conv6 : ∀ w', Keeps (two p q) w6 w' → (convert 28 9 v6).run Try.prog w' = .ok (.string (strOf (rawVal L err t.n))) w' := fun w' hs => conv_str _ _ _ _ (Hr6.out.keep hs Hn6.out)
        have Conv6 := Lib.hid conv6
        clear conv6
        refine wpS_fx rfl (Keeps (two p q) w6) (fun w' hs => (Hk6.out.mono (fun b _ h => two_p p q b h)).trans hs (fun _ _ h => h)) (Keeps.refl _ _) fun K hK => ?_
        simp only [List.map_cons, List.map_nil, Option.getD_some, List.getElem?_toArray, List.getElem?_cons_zero, List.getElem?_cons_succ]
        iterate 1 (first | (apply quietO_cons _ rfl; (intro w' hs; have c_0 := Conv6.out w' hs; go_simp; rfl)) | apply quietO_skip rfl)
        refine hK _ ?_
        clear hK K
        simp only [Act.put, List.setIfInBounds_toArray, List.set_cons_zero, List.set_cons_succ]
        refine wpS_es rfl fun K hK => ?_
        have HK := Lib.hid hK
        clear hK
        simp only [List.map_cons, List.map_nil, Option.getD_some, List.getElem?_toArray, List.getElem?_cons_zero, List.getElem?_cons_succ]
        go_wp2_with fail
        refine (rraw_any _ _ _ _ _ w6 Hr6q.out).mono ?_
        rintro e w7 ⟨v7, g7, rfl, hv7, hg7, hr7, hk7⟩
        have hi7 := Hi6.out.keep hk7 (fun e => hpq.out.1 e) (fun b hb e => hpq.out.2 b hb e)
        have hkp7 := Hkp6.out.fresh hk7 hqw'.out
        have hc7 := conv_str _ _ _ _ hv7
        clear hg7 hv7
        have Hr7 := Lib.hid hr7
        have Hk7 := Lib.hid hk7
        have Hi7 := Lib.hid hi7
        have Hkp7 := Lib.hid hkp7
        have Hc7 := Lib.hid hc7
        clear hr7 hk7 hi7 hkp7 hc7
        go_wp2_with fail
        refine HK.out _ _ (fun _ => Hk7.out.mono (fun b _ h => two_q p q b h)) ?_
        clear HK K
        refine wpS_es rfl fun K hK => ?_
        have HK := Lib.hid hK
        clear hK
        simp only [List.map_cons, List.map_nil, Option.getD_some, List.getElem?_toArray, List.getElem?_cons_zero, List.getElem?_cons_succ]
        have hc7 := Hc7.out
        go_wp2_with fail
        refine HK.out _ _ (fun _ => Hk7.out.mono (fun b _ h => two_q p q b h)) ?_
        clear HK K
        clear hc7
        refine wpS_ps rfl fun K hK => ?_
        simp only [List.map_cons, List.map_nil, Option.getD_some, List.getElem?_toArray, List.getElem?_cons_zero, List.getElem?_cons_succ]
        iterate 2 (first | (apply quietO_cons _ rfl; (intro w' _; go_simp; rfl)) | apply quietO_skip rfl)
        refine hK _ ?_
        clear hK K
        simp only [Act.put, List.setIfInBounds_toArray, List.set_cons_zero, List.set_cons_succ]
        refine wpS_nil ?_
        have hL7 := Nat.le_trans (raw_len L err t.n) hL
        generalize rawLeft L err t.n = L7 at *
        generalize rawErr L err t.n = err7 at *
        clear Hr6 Hi6 Hk6 Hr6q Hkp6 Hk7 Conv6 Hc7
        go_wp2_with fail
        refine wp_region_script [3, 5, 10, 12, 13, 14, 15, 16, 17] [15] [.es [0, 1, 2] false, .ps [3, 5], .es [4, 6, 7, 8, 9] false, .ps [10, 12, 13, 14], .fs [15], .es [11] true, .ps [16, 17]] (fun w' => ∃ n, w' = w7.drewN n) rfl (by kernel_rfl) ?_
        refine wpS_es rfl fun K hK => ?_
        have HK := Lib.hid hK
        clear hK
        simp only [List.map_cons, List.map_nil, Option.getD_some, List.getElem?_toArray, List.getElem?_cons_zero, List.getElem?_cons_succ]
        go_wp2_with fail
        refine HK.out _ _ (fun h => by cases h) ?_
        clear HK K
        refine wpS_ps rfl fun K hK => ?_
        simp only [List.map_cons, List.map_nil, Option.getD_some, List.getElem?_toArray, List.getElem?_cons_zero, List.getElem?_cons_succ]
        iterate 2 (first | (apply quietO_cons _ rfl; (intro w' _; go_simp; rfl)) | apply quietO_skip rfl)
        refine hK _ ?_
        clear hK K
        simp only [Act.put, List.setIfInBounds_toArray, List.set_cons_zero, List.set_cons_succ]
        refine wpS_es rfl fun K hK => ?_
        have HK := Lib.hid hK
        clear hK
        simp only [List.map_cons, List.map_nil, Option.getD_some, List.getElem?_toArray, List.getElem?_cons_zero, List.getElem?_cons_succ]
        go_wp2_with fail
        refine (in_left _ _ _ _ w7.drew (by exact Hi7.out)).mono ?_
        rintro e w8 ⟨rfl, rfl⟩
        go_wp2_with fail
        refine (rin_left _ _ _ _ w7.drew (by exact Hr7.out)).mono ?_
        rintro e w8 ⟨rfl, n8, rfl⟩
        go_wp2_with fail
        refine HK.out _ _ (fun h => by cases h) ?_
        clear HK K
        refine wpS_ps rfl fun K hK => ?_
        simp only [List.map_cons, List.map_nil, Option.getD_some, List.getElem?_toArray, List.getElem?_cons_zero, List.getElem?_cons_succ]
        iterate 4 (first | (apply quietO_cons _ rfl; (intro w' _; go_simp; rfl)) | apply quietO_skip rfl)
        refine hK _ ?_
        clear hK K
        simp only [Act.put, List.setIfInBounds_toArray, List.set_cons_zero, List.set_cons_succ]
        have cb : ∀ w', (∃ n, w' = w7.drewN n) → w'.cell? ⟨q, 2, none⟩ = some (.int .i64 err7) := by
          obtain ⟨_, _, _, hb7, _⟩ := Hr7.out
          rintro w' ⟨n, rfl⟩
          simpa using hb7.cell 2
        refine wpS_fs rfl (⟨n8 + 1, by simp [World.drewN_drew, Nat.add_comm]⟩) fun K hK => ?_
        simp only [List.map_cons, List.map_nil, Option.getD_some, List.getElem?_toArray, List.getElem?_cons_zero, List.getElem?_cons_succ]
        iterate 1 (first | (apply quietO_cons _ rfl; (intro w' hs; have c_0 := cb w' hs; go_simp; rfl)) | apply quietO_skip rfl)
        refine hK _ ?_
        clear hK K
        simp only [Act.put, List.setIfInBounds_toArray, List.set_cons_zero, List.set_cons_succ]
        refine wpS_es rfl fun K hK => ?_
        have HK := Lib.hid hK
        clear hK
        simp only [List.map_cons, List.map_nil, Option.getD_some, List.getElem?_toArray, List.getElem?_cons_zero, List.getElem?_cons_succ]
        go_wp2_with fail
        refine (in_err _ _ _ _ _ (by exact Hi7.out)).mono ?_
        rintro e w9 ⟨rfl, rfl⟩
        go_wp2_with fail
        refine HK.out _ _ (fun _ => ⟨n8 + 1, by simp [World.drewN_drew, Nat.add_comm]⟩) ?_
        clear HK K
        clear cb
        refine wpS_ps rfl fun K hK => ?_
        simp only [List.map_cons, List.map_nil, Option.getD_some, List.getElem?_toArray, List.getElem?_cons_zero, List.getElem?_cons_succ]
        iterate 2 (first | (apply quietO_cons _ rfl; (intro w' _; go_simp; rfl)) | apply quietO_skip rfl)
        refine hK _ ?_
        clear hK K
        simp only [Act.put, List.setIfInBounds_toArray, List.set_cons_zero, List.set_cons_succ]
        refine wpS_nil ?_
        go_wp2_with fail
        go_roundw
        case rel => exact ⟨k + 1, L7, err7, by omega, by go_num, Hi7.out, Hr7.out, hL7, Hkp7.out.drewN _⟩
        case measure => simp [intOf]; omega
      | false =>
        rw [hts] at d0
        go_wp2_with fail
        refine wp_region_script [0, 1, 2, 3, 4, 5, 7, 8, 9, 10, 11, 12] [5, 12] [.ps [0, 1, 2, 3, 4], .fs [5], .ps [7, 8, 9, 10, 11], .fs [12], .es [6] true, .es [13, 14, 15] false] (Keeps (two p q) wr.drew) rfl (by kernel_rfl) ?_
        refine wpS_ps rfl fun K hK => ?_
        simp only [List.map_cons, List.map_nil, Option.getD_some, List.getElem?_toArray, List.getElem?_cons_zero, List.getElem?_cons_succ]
        iterate 5 (first | (apply quietO_cons _ rfl; (intro w' _; go_simp; rfl)) | apply quietO_skip rfl)
        refine hK _ ?_
        clear hK K
        simp only [Act.put, List.setIfInBounds_toArray, List.set_cons_zero, List.set_cons_succ]
        refine wpS_fs rfl (Keeps.refl _ _) fun K hK => ?_
        simp only [List.map_cons, List.map_nil, Option.getD_some, List.getElem?_toArray, List.getElem?_cons_zero, List.getElem?_cons_succ]
        iterate 1 (first | (apply quietO_cons _ rfl; (intro w' hs; have c_0 := Cell1.out w' hs; go_simp; rfl)) | apply quietO_skip rfl)
        refine hK _ ?_
        clear hK K
        simp only [Act.put, List.setIfInBounds_toArray, List.set_cons_zero, List.set_cons_succ]
        refine wpS_ps rfl fun K hK => ?_
        simp only [List.map_cons, List.map_nil, Option.getD_some, List.getElem?_toArray, List.getElem?_cons_zero, List.getElem?_cons_succ]
        iterate 5 (first | (apply quietO_cons _ rfl; (intro w' _; go_simp; rfl)) | apply quietO_skip rfl)
        refine hK _ ?_
        clear hK K
        simp only [Act.put, List.setIfInBounds_toArray, List.set_cons_zero, List.set_cons_succ]
        refine wpS_fs rfl (Keeps.refl _ _) fun K hK => ?_
        simp only [List.map_cons, List.map_nil, Option.getD_some, List.getElem?_toArray, List.getElem?_cons_zero, List.getElem?_cons_succ]
        iterate 1 (first | (apply quietO_cons _ rfl; (intro w' hs; have c_0 := Cell1.out w' hs; go_simp; rfl)) | apply quietO_skip rfl)
        refine hK _ ?_
        clear hK K
        simp only [Act.put, List.setIfInBounds_toArray, List.set_cons_zero, List.set_cons_succ]
        refine wpS_es rfl fun K hK => ?_
        have HK := Lib.hid hK
        clear hK
        simp only [List.map_cons, List.map_nil, Option.getD_some, List.getElem?_toArray, List.getElem?_cons_zero, List.getElem?_cons_succ]
        go_wp2_with fail
        refine (take_any _ _ _ _ _ wr.drew (by exact Hi.out)).mono ?_
        rintro e w6 ⟨rfl, hi6, hk6⟩
        have hr6q := (RIn.keep (w := wr.drew) Hr.out hk6 (fun e => hpq.out.1 (by unfold only at e; exact e.symm)) (fun b hb e => by have := Hgb.out b hb; have := hpw.out; unfold only at e; omega))
        have hkp6 := Hkp.out.drew.fresh hk6 hpw.out
        have Hi6 := Lib.hid hi6
        have Hk6 := Lib.hid hk6
        have Hr6q := Lib.hid hr6q
        have Hkp6 := Lib.hid hkp6
        clear hi6 hk6 hr6q hkp6
        go_wp2_with fail
        refine HK.out _ _ (fun _ => Hk6.out.mono (fun b _ h => two_p p q b h)) ?_
        clear HK K
        refine wpS_es rfl fun K hK => ?_
        have HK := Lib.hid hK
        clear hK
        simp only [List.map_cons, List.map_nil, Option.getD_some, List.getElem?_toArray, List.getElem?_cons_zero, List.getElem?_cons_succ]
        go_wp2_with fail
        refine (rtake_any _ _ _ _ _ w6 Hr6q.out).mono ?_
        rintro e w7 ⟨rfl, hr7, hk7⟩
        have hi7 := Hi6.out.keep hk7 (fun e => hpq.out.1 e) (fun b hb e => hpq.out.2 b hb e)
        have hkp7 := Hkp6.out.fresh hk7 hqw'.out
        clear hk7
        have Hr7 := Lib.hid hr7
        have Hi7 := Lib.hid hi7
        have Hkp7 := Lib.hid hkp7
        clear hr7 hi7 hkp7
        go_wp2_with fail
        refine HK.out _ _ (fun h => by cases h) ?_
        clear HK K
        refine wpS_nil ?_
        have hL7 := Nat.le_trans (take_len L err t.n) hL
        generalize takeLeft L err t.n = L7 at *
        generalize takeErr L err t.n = err7 at *
        generalize takeVal L err t.n = val7 at *
        clear Hi6 Hk6 Hr6q Hkp6
        go_wp2_with fail
        refine wp_region_script [3, 5, 10, 12, 13, 14, 15, 16, 17] [15] [.es [0, 1, 2] false, .ps [3, 5], .es [4, 6, 7, 8, 9] false, .ps [10, 12, 13, 14], .fs [15], .es [11] true, .ps [16, 17]] (fun w' => ∃ n, w' = w7.drewN n) rfl (by kernel_rfl) ?_
        refine wpS_es rfl fun K hK => ?_
        have HK := Lib.hid hK
        clear hK
        simp only [List.map_cons, List.map_nil, Option.getD_some, List.getElem?_toArray, List.getElem?_cons_zero, List.getElem?_cons_succ]
        go_wp2_with fail
        refine HK.out _ _ (fun h => by cases h) ?_
        clear HK K
        refine wpS_ps rfl fun K hK => ?_
        simp only [List.map_cons, List.map_nil, Option.getD_some, List.getElem?_toArray, List.getElem?_cons_zero, List.getElem?_cons_succ]
        iterate 2 (first | (apply quietO_cons _ rfl; (intro w' _; go_simp; rfl)) | apply quietO_skip rfl)
        refine hK _ ?_
        clear hK K
        simp only [Act.put, List.setIfInBounds_toArray, List.set_cons_zero, List.set_cons_succ]
        refine wpS_es rfl fun K hK => ?_
        have HK := Lib.hid hK
        clear hK
        simp only [List.map_cons, List.map_nil, Option.getD_some, List.getElem?_toArray, List.getElem?_cons_zero, List.getElem?_cons_succ]
        go_wp2_with fail
        refine (in_left _ _ _ _ w7.drew (by exact Hi7.out)).mono ?_
        rintro e w8 ⟨rfl, rfl⟩
        go_wp2_with fail
        refine (rin_left _ _ _ _ w7.drew (by exact Hr7.out)).mono ?_
        rintro e w8 ⟨rfl, n8, rfl⟩
        go_wp2_with fail
        refine HK.out _ _ (fun h => by cases h) ?_
        clear HK K
        refine wpS_ps rfl fun K hK => ?_
        simp only [List.map_cons, List.map_nil, Option.getD_some, List.getElem?_toArray, List.getElem?_cons_zero, List.getElem?_cons_succ]
        iterate 4 (first | (apply quietO_cons _ rfl; (intro w' _; go_simp; rfl)) | apply quietO_skip rfl)
        refine hK _ ?_
        clear hK K
        simp only [Act.put, List.setIfInBounds_toArray, List.set_cons_zero, List.set_cons_succ]
        have cb : ∀ w', (∃ n, w' = w7.drewN n) → w'.cell? ⟨q, 2, none⟩ = some (.int .i64 err7) := by
          obtain ⟨_, _, _, hb7, _⟩ := Hr7.out
          rintro w' ⟨n, rfl⟩
          simpa using hb7.cell 2
        refine wpS_fs rfl (⟨n8 + 1, by simp [World.drewN_drew, Nat.add_comm]⟩) fun K hK => ?_
        simp only [List.map_cons, List.map_nil, Option.getD_some, List.getElem?_toArray, List.getElem?_cons_zero, List.getElem?_cons_succ]
        iterate 1 (first | (apply quietO_cons _ rfl; (intro w' hs; have c_0 := cb w' hs; go_simp; rfl)) | apply quietO_skip rfl)
        refine hK _ ?_
        clear hK K
        simp only [Act.put, List.setIfInBounds_toArray, List.set_cons_zero, List.set_cons_succ]
        refine wpS_es rfl fun K hK => ?_
        have HK := Lib.hid hK
        clear hK
        simp only [List.map_cons, List.map_nil, Option.getD_some, List.getElem?_toArray, List.getElem?_cons_zero, List.getElem?_cons_succ]
        go_wp2_with fail
        refine (in_err _ _ _ _ _ (by exact Hi7.out)).mono ?_
        rintro e w9 ⟨rfl, rfl⟩
        go_wp2_with fail
        refine HK.out _ _ (fun _ => ⟨n8 + 1, by simp [World.drewN_drew, Nat.add_comm]⟩) ?_
        clear HK K
        clear cb
        refine wpS_ps rfl fun K hK => ?_
        simp only [List.map_cons, List.map_nil, Option.getD_some, List.getElem?_toArray, List.getElem?_cons_zero, List.getElem?_cons_succ]
        iterate 2 (first | (apply quietO_cons _ rfl; (intro w' _; go_simp; rfl)) | apply quietO_skip rfl)
        refine hK _ ?_
        clear hK K
        simp only [Act.put, List.setIfInBounds_toArray, List.set_cons_zero, List.set_cons_succ]
        refine wpS_nil ?_
        go_wp2_with fail
        go_roundw
        case rel => exact ⟨k + 1, L7, err7, by omega, by go_num, Hi7.out, Hr7.out, hL7, Hkp7.out.drewN _⟩
        case measure => simp [intOf]; omega
    · have Hi := Lib.hid hi
      have Hr := Lib.hid hr
      have Hkp := Lib.hid hkp
      clear hi hr hkp
      go_wp2_with fail
      go_ret
      exact ⟨rfl, Hkp.out⟩
end Go.Proofs.Ytbckbnmpeedodaa
