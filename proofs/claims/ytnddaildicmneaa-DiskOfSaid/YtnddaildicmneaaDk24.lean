/-
  loggialaw7.DiskOf: the walk.
-/
import Derived.Test.YtnddaildicmneaaDk23
namespace Go.Proofs.Ytnddaildicmneaa
open Go.Proofs Go.RowKit

theorem dk_of (b o c n z : Nat) (g : Option Nat) (L : List UInt8) (w : World) (hr : recB.Rd w (.slice (some ⟨b, o, none⟩) (n * z) c) g L) (hn : 1 ≤ n) (hz1 : 64 ≤ z) (hz2 : z ≤ 1024) (hnz : n * z ≤ 1000000) :
    Calls Try.prog 35 #[.slice (some ⟨b, o, none⟩) (n * z) c, .int .i64 z] w fun e w' => ∃ t F', e = .returned (.tuple #[dp t, .int .i64 0]) ∧ DOwn w w' t F' (ofD L z (List.finRange n)) := by
  refine (dof_ok b o c n z g L w hr hn hz1 hz2 hnz).mono ?_
  rintro e w' ⟨r, he, t, b', kv', kp', ks', vs', rfl, hd, hF, hk⟩
  exact ⟨t, _, he, ⟨b', kv', kp', ks', vs', rfl, hd⟩, hF, hk⟩
theorem dof_long (A : Option Addr) (N c : Nat) (z : Int) (w : World) (h : 3000 < N) : Calls Try.prog 9 #[.slice A N c, .int .i64 z] w (YesD w) := by
  have hkn := known7 w
  have g1 : (3000 : Int) < (N : Int) := by omega
  have Hkn := Lib.hid hkn
  clear hkn
  go_enter Try.func9, Try.ntmps9
  go_wp2_with fail
  refine (Hkn.out).mono ?_
  rintro e w1 ⟨rfl, hk1⟩
  go_wp2_with fail
  go_ret
  exact ⟨rfl, hk1⟩
set_option maxRecDepth 20000 in
set_option maxHeartbeats 4000000 in
theorem diskof_bad (A : Option Addr) (N c : Nat) (z : Int) (w : World) (h : ¬ 3000 < N) (hz2 : z ≤ 9223372036854775807) (hb : ¬ (64 ≤ z ∧ z ≤ 1024 ∧ (N : Int) % z = 0 ∧ 1 ≤ (N : Int) / z ∧ (N : Int) / z ≤ 16384)) : Calls Try.prog 9 #[.slice A N c, .int .i64 z] w (YesD w) := by
  have hkn := known7 w
  have hof := fun w => dof_bad A N c z w (by omega) hz2 hb
  have g1 : ¬ (3000 : Int) < (N : Int) := by omega
  by_cases h1 : 64 ≤ z
  · by_cases h2 : z ≤ 1024
    · have hz0 : ((z : Int) == 0) = false := by simp; omega
      have hz00 : ¬ (z : Int) = 0 := by omega
      by_cases h3 : 0 < N
      · have h3I : (0 : Int) < (N : Int) := by omega
        have e1 : Int.tmod (N : Int) z = (N : Int) % z := Int.tmod_eq_emod_of_nonneg (by omega)
        obtain ⟨m, hm⟩ : ∃ m, m = (N : Int) % z := ⟨_, rfl⟩
        have hm3 : ¬ m = 0 := fun e => by
          have hd0 : (N : Int) % z = 0 := by rw [← hm]; exact e
          have hdd := Int.mul_ediv_add_emod (N : Int) z
          rw [hd0, Int.add_zero] at hdd
          have hq0 : 0 ≤ (N : Int) / z := Int.ediv_nonneg (by omega) (by omega)
          have hq1 : 1 ≤ (N : Int) / z := by
            rcases Int.lt_or_le 0 ((N : Int) / z) with h | h
            · omega
            · have h0 : (N : Int) / z = 0 := by omega
              rw [h0, Int.mul_zero] at hdd
              omega
          have hqN : (N : Int) / z ≤ N := Int.ediv_le_self _ (by omega)
          exact hb ⟨h1, h2, hd0, hq1, by omega⟩
        rw [← hm] at e1
        have hm0 : 0 ≤ m := by rw [hm]; exact Int.emod_nonneg _ (by omega)
        have hmz : m < z := by rw [hm]; exact Int.emod_lt_of_pos _ (by omega)
        have hw2 : IntKind.i64.wrap m = m := IntWalk.i64_in _ (by omega)
        have hm4 : (m == 0) = false := by simp [hm3]
        have Hkn := Lib.hid hkn
        have Hof := Lib.hid hof
        have Hb := Lib.hid hb
        have Hm := Lib.hid hm
        clear hkn hof hb hm
        go_enter Try.func9, Try.ntmps9
        go_wp2_with fail
        refine (Hkn.out).mono ?_
        rintro e w1 ⟨rfl, hk1⟩
        go_wp2_with fail
        refine (Hof.out w1).mono ?_
        rintro e w2 ⟨rfl, rfl⟩
        go_wp2_with fail
        go_ret
        exact ⟨rfl, hk1⟩
      · obtain rfl : N = 0 := by omega
        have Hkn := Lib.hid hkn
        have Hof := Lib.hid hof
        have Hb := Lib.hid hb
        clear hkn hof hb
        go_enter Try.func9, Try.ntmps9
        go_wp2_with fail
        refine (Hkn.out).mono ?_
        rintro e w1 ⟨rfl, hk1⟩
        go_wp2_with fail
        refine (Hof.out w1).mono ?_
        rintro e w2 ⟨rfl, rfl⟩
        go_wp2_with fail
        go_ret
        exact ⟨rfl, hk1⟩
    · have h2d : decide (z ≤ 1024) = false := by simp; omega
      have Hkn := Lib.hid hkn
      have Hof := Lib.hid hof
      have Hb := Lib.hid hb
      clear hkn hof hb
      go_enter Try.func9, Try.ntmps9
      go_wp2_with fail
      refine (Hkn.out).mono ?_
      rintro e w1 ⟨rfl, hk1⟩
      go_wp2_with fail
      refine (Hof.out w1).mono ?_
      rintro e w2 ⟨rfl, rfl⟩
      go_wp2_with fail
      go_ret
      exact ⟨rfl, hk1⟩
  · have h1d : decide (64 ≤ z) = false := by simp; omega
    have Hkn := Lib.hid hkn
    have Hof := Lib.hid hof
    have Hb := Lib.hid hb
    clear hkn hof hb
    go_enter Try.func9, Try.ntmps9
    go_wp2_with fail
    refine (Hkn.out).mono ?_
    rintro e w1 ⟨rfl, hk1⟩
    go_wp2_with fail
    refine (Hof.out w1).mono ?_
    rintro e w2 ⟨rfl, rfl⟩
    go_wp2_with fail
    go_ret
    exact ⟨rfl, hk1⟩
set_option maxRecDepth 20000 in
set_option maxHeartbeats 8000000 in
theorem diskof_ok (b o c n z : Nat) (g : Option Nat) (L : List UInt8) (w : World) (hr : recB.Rd w (.slice (some ⟨b, o, none⟩) (n * z) c) g L) (hn : 1 ≤ n) (hz1 : 64 ≤ z) (hz2 : z ≤ 1024) (hnz : n * z ≤ 3000) :
    Calls Try.prog 9 #[.slice (some ⟨b, o, none⟩) (n * z) c, .int .i64 z] w (YesD w) := by
  have hkn := known7 w
  have hof := fun (w' : World) (hk : Keeps nowhere w w') => dk_of b o c n z g L w' (hr.same hk) hn hz1 hz2 (by omega)
  have hLl : L.length = n * z := by
    obtain ⟨_, _, hv, -⟩ := id hr
    injection hv with _ h _
    exact h.symm
  have hn2 : n ≤ 16384 := by
    have : n * 64 ≤ n * z := Nat.mul_le_mul_left _ hz1
    omega
  have hok := ofD_ok (n := n) L hz2 (by omega) hn2
  have hall := pieces_all hLl
  obtain ⟨N, hN⟩ : ∃ N, N = n * z := ⟨_, rfl⟩
  have hNp : 0 < N := by rw [hN]; exact Nat.mul_pos (by omega) (by omega)
  have e1 : Int.tmod (N : Int) (z : Int) = 0 := by rw [hN, Int.tmod_eq_emod_of_nonneg (by omega)]; simp
  have e2 : Int.tdiv (N : Int) (z : Int) = n := by rw [hN, Int.tdiv_eq_ediv_of_nonneg (by omega)]; push_cast; exact Int.mul_ediv_cancel _ (by omega)
  have hw1 : IntKind.i64.wrap (0 : Int) = 0 := rfl
  have hw2 : IntKind.i64.wrap (n : Int) = n := IntWalk.i64_in _ (by omega)
  have hz0 : ((z : Int) == 0) = false := by simp; omega
  have hz00 : ¬ (z : Int) = 0 := by omega
  have hzN : ¬ z = 0 := by omega
  have g0 : ¬ (3000 : Int) < (N : Int) := by omega
  have g1 : (64 : Int) ≤ (z : Int) := by omega
  have g2 : (z : Int) ≤ 1024 := by omega
  have g3 : (0 : Int) < (N : Int) := by omega
  rw [← hN] at hr hof hLl ⊢
  have Hkn := Lib.hid hkn
  have Hof := Lib.hid hof
  have Hr := Lib.hid hr
  have HN := Lib.hid hN
  have Hok := Lib.hid hok
  have Hall := Lib.hid hall
  have HLl := Lib.hid hLl
  clear hkn hof hr hN hok hall hLl
  go_enter Try.func9, Try.ntmps9
  go_wp2_with fail
  refine (Hkn.out).mono ?_
  rintro e w1 ⟨rfl, hk1⟩
  clear Hkn
  have hc := Hof.out w1 hk1
  have Hk1 := Lib.hid hk1
  have Hc := Lib.hid hc
  clear hk1 hc
  go_wp2_with fail
  refine (Hc.out).mono ?_
  rintro e w2 ⟨d, F2, rfl, o2⟩
  clear Hc
  unfold dp
  have hc := own_cut _ none [] o2 Hok.out (RecT.Rd.nil recBo w2) (fun k e => by cases e)
  unfold dp at hc
  have O2 := Lib.hid o2
  have Hc := Lib.hid hc
  clear o2 hc
  go_wp2_with fail
  refine (Hc.out).mono ?_
  rintro e w3 ⟨rfl, F3, o3, -, -⟩
  clear Hc
  have hc := own_on o3
  unfold dp at hc
  have O3 := Lib.hid o3
  have Hc := Lib.hid hc
  clear o3 hc
  go_wp2_with fail
  refine (Hc.out).mono ?_
  rintro e w4 ⟨rfl, F4, o4, -, -⟩
  clear Hc
  obtain ⟨D, hD⟩ : ∃ D, D = ((ofD L z (List.finRange n)).cut []).on := ⟨_, rfl⟩
  have d1 : D.kept = (ofD L z (List.finRange n)).kept := by rw [hD]; rfl
  have d2 : D.kept.length = n := by rw [d1]; simp [ofD]
  have d3 : D.size = z := by rw [hD]; rfl
  have d4 : D.pend = [] := by rw [hD]; rfl
  have d5 : D.kept.flatten = L := by rw [d1]; exact Hall.out
  have hokD : DOk D := by
    rw [hD]
    have h := Hok.out.cut []
    exact ⟨h.pend, h.size, h.kept, h.all, h.writes, h.arm, h.keep⟩
  rw [← hD] at o4
  have hc := own_shape o4
  rw [d2, d3] at hc
  unfold dp at hc
  clear hD
  have O4 := Lib.hid o4
  have Hc := Lib.hid hc
  have D1 := Lib.hid d1
  have D2 := Lib.hid d2
  have D3 := Lib.hid d3
  have D4 := Lib.hid d4
  have D5 := Lib.hid d5
  have HokD := Lib.hid hokD
  clear o4 hc d1 d2 d3 d4 d5 hokD
  go_wp2_with fail
  refine (Hc.out).mono ?_
  rintro e w5 ⟨rfl, o5, hk5⟩
  clear Hc
  have hkd := (Keeps.refl nowhere w5).drew
  have hkw := Hk1.out.more (o5.kp.more hkd)
  have hcb := own_bytes (o5.same hkd) HokD.out (by rw [D2.out]; omega)
  rw [D5.out, HLl.out] at hcb
  unfold dp at hcb
  have q4 : ∀ w', Keeps nowhere w5.drew w' → (convert 41 9 (.slice (some ⟨b, o, none⟩) N c)).run Try.prog w' = .ok (.string (strOf L)) w' := fun w' h => conv_rdB ((Hr.out.same hkw).same h) (by rw [HLl.out]; exact hNp)
  clear hkd
  have O5 := Lib.hid o5
  have Hk5 := Lib.hid hk5
  have Hkw := Lib.hid hkw
  have Hcb := Lib.hid hcb
  clear o5 hk5 hkw hcb
  go_wp2_with fail
  refine wp_region_script [0, 2, 3, 4, 5, 6, 7, 8, 9, 10, 11, 12, 13, 14, 15, 16, 17, 18, 19, 20, 22, 23, 24] [2, 4] [.ps [0, 3], .fs [4], .es [1] true, .fs [2], .ps [5, 6], .ps [7, 8, 9], .ps [10, 11, 12], .ps [13, 14], .ps [15, 16, 17], .ps [18, 19], .ps [20], .es [21] false, .ps [22, 23, 24]] (Keeps nowhere w5.drew) rfl (by kernel_rfl) ?_
  refine wpS_ps rfl fun K hK => ?_
  simp only [List.map_cons, List.map_nil, Option.getD_some, List.getElem?_toArray, List.getElem?_cons_zero, List.getElem?_cons_succ]
  iterate 2 (first | (apply quietO_cons _ rfl; (intro w' _; go_simp; rfl)) | apply quietO_skip rfl)
  refine hK _ ?_
  clear hK K
  simp only [Act.put, List.setIfInBounds_toArray, List.set_cons_zero, List.set_cons_succ]
  refine wpS_fs rfl (Keeps.refl _ _) fun K hK => ?_
  simp only [List.map_cons, List.map_nil, Option.getD_some, List.getElem?_toArray, List.getElem?_cons_zero, List.getElem?_cons_succ]
  iterate 1 (first | (apply quietO_cons _ rfl; (intro w' hs; have c_0 := q4 w' hs; go_simp; rfl)) | apply quietO_skip rfl)
  refine hK _ ?_
  clear hK K
  simp only [Act.put, List.setIfInBounds_toArray, List.set_cons_zero, List.set_cons_succ]
  refine wpS_es rfl fun K hK => ?_
  have HK := Lib.hid hK
  clear hK
  simp only [List.map_cons, List.map_nil, Option.getD_some, List.getElem?_toArray, List.getElem?_cons_zero, List.getElem?_cons_succ]
  go_wp2_with fail
  refine Hcb.out.mono ?_
  rintro e w6 ⟨A6, c6, g6, rfl, hr6, -, o6, hk6⟩
  have q2 : ∀ w', Keeps nowhere w6 w' → (convert 41 9 (.slice A6 N c6)).run Try.prog w' = .ok (.string (strOf L)) w' := fun w' h => conv_rdB (hr6.same h) (by rw [HLl.out]; exact hNp)
  have hcp := dk_pending o6.k
  rw [D4.out] at hcp
  unfold dp at hcp
  have hkf := o6.kp
  clear Hcb hr6
  have O6 := Lib.hid o6
  have Hcp := Lib.hid hcp
  have Hkf := Lib.hid hkf
  clear o6 hcp hkf
  go_wp2_with fail
  refine HK.out _ _ (fun _ => hk6) ?_
  clear HK K
  refine wpS_fx rfl (Keeps nowhere w6) (fun w' h => hk6.more h) (Keeps.refl nowhere w6) fun K hK => ?_
  simp only [List.map_cons, List.map_nil, Option.getD_some, List.getElem?_toArray, List.getElem?_cons_zero, List.getElem?_cons_succ]
  iterate 1 (first | (apply quietO_cons _ rfl; (intro w' hs; have c_0 := q2 w' hs; go_simp; rfl)) | apply quietO_skip rfl)
  refine hK _ ?_
  clear hK K
  simp only [Act.put, List.setIfInBounds_toArray, List.set_cons_zero, List.set_cons_succ]
  refine wpS_ps rfl fun K hK => ?_
  simp only [List.map_cons, List.map_nil, Option.getD_some, List.getElem?_toArray, List.getElem?_cons_zero, List.getElem?_cons_succ]
  iterate 2 (first | (apply quietO_cons _ rfl; (intro w' _; go_simp; rfl)) | apply quietO_skip rfl)
  refine hK _ ?_
  clear hK K
  simp only [Act.put, List.setIfInBounds_toArray, List.set_cons_zero, List.set_cons_succ]
  refine wpS_ps rfl fun K hK => ?_
  simp only [List.map_cons, List.map_nil, Option.getD_some, List.getElem?_toArray, List.getElem?_cons_zero, List.getElem?_cons_succ]
  iterate 3 (first | (apply quietO_cons _ rfl; (intro w' _; go_simp; rfl)) | apply quietO_skip rfl)
  refine hK _ ?_
  clear hK K
  simp only [Act.put, List.setIfInBounds_toArray, List.set_cons_zero, List.set_cons_succ]
  refine wpS_ps rfl fun K hK => ?_
  simp only [List.map_cons, List.map_nil, Option.getD_some, List.getElem?_toArray, List.getElem?_cons_zero, List.getElem?_cons_succ]
  iterate 3 (first | (apply quietO_cons _ rfl; (intro w' _; go_simp; rfl)) | apply quietO_skip rfl)
  refine hK _ ?_
  clear hK K
  simp only [Act.put, List.setIfInBounds_toArray, List.set_cons_zero, List.set_cons_succ]
  refine wpS_ps rfl fun K hK => ?_
  simp only [List.map_cons, List.map_nil, Option.getD_some, List.getElem?_toArray, List.getElem?_cons_zero, List.getElem?_cons_succ]
  iterate 2 (first | (apply quietO_cons _ rfl; (intro w' _; go_simp; rfl)) | apply quietO_skip rfl)
  refine hK _ ?_
  clear hK K
  simp only [Act.put, List.setIfInBounds_toArray, List.set_cons_zero, List.set_cons_succ]
  refine wpS_ps rfl fun K hK => ?_
  simp only [List.map_cons, List.map_nil, Option.getD_some, List.getElem?_toArray, List.getElem?_cons_zero, List.getElem?_cons_succ]
  iterate 3 (first | (apply quietO_cons _ rfl; (intro w' _; go_simp; rfl)) | apply quietO_skip rfl)
  refine hK _ ?_
  clear hK K
  simp only [Act.put, List.setIfInBounds_toArray, List.set_cons_zero, List.set_cons_succ]
  refine wpS_ps rfl fun K hK => ?_
  simp only [List.map_cons, List.map_nil, Option.getD_some, List.getElem?_toArray, List.getElem?_cons_zero, List.getElem?_cons_succ]
  iterate 2 (first | (apply quietO_cons _ rfl; (intro w' _; go_simp; rfl)) | apply quietO_skip rfl)
  refine hK _ ?_
  clear hK K
  simp only [Act.put, List.setIfInBounds_toArray, List.set_cons_zero, List.set_cons_succ]
  refine wpS_ps rfl fun K hK => ?_
  simp only [List.map_cons, List.map_nil, Option.getD_some, List.getElem?_toArray, List.getElem?_cons_zero, List.getElem?_cons_succ]
  iterate 1 (first | (apply quietO_cons _ rfl; (intro w' _; go_simp; rfl)) | apply quietO_skip rfl)
  refine hK _ ?_
  clear hK K
  simp only [Act.put, List.setIfInBounds_toArray, List.set_cons_zero, List.set_cons_succ]
  clear q2 q4
  refine wpS_es rfl fun K hK => ?_
  have HK := Lib.hid hK
  clear hK
  simp only [List.map_cons, List.map_nil, Option.getD_some, List.getElem?_toArray, List.getElem?_cons_zero, List.getElem?_cons_succ]
  go_wp2_with fail
  refine Hcp.out.mono ?_
  rintro e w7 ⟨rfl, rfl⟩
  go_wp2_with fail
  refine HK.out _ _ (fun h => by cases h) ?_
  clear HK K
  refine wpS_ps rfl fun K hK => ?_
  simp only [List.map_cons, List.map_nil, Option.getD_some, List.getElem?_toArray, List.getElem?_cons_zero, List.getElem?_cons_succ]
  iterate 3 (first | (apply quietO_cons _ rfl; (intro w' _; go_simp; rfl)) | apply quietO_skip rfl)
  refine hK _ ?_
  clear hK K
  simp only [Act.put, List.setIfInBounds_toArray, List.set_cons_zero, List.set_cons_succ]
  refine wpS_nil ?_
  go_wp2_with fail
  go_ret
  exact ⟨by simp, Hk1.out.more Hkf.out⟩
theorem diskof_all (A : Option Addr) (c : Nat) (g : Option Nat) (L : List UInt8) (z : Int) (w : World) (hr : recB.Rd w (.slice A L.length c) g L) (hz2 : z ≤ 9223372036854775807) : Calls Try.prog 9 #[.slice A L.length c, .int .i64 z] w (YesD w) := by
  by_cases h : 3000 < L.length
  · exact dof_long A _ c z w h
  · by_cases hb : 64 ≤ z ∧ z ≤ 1024 ∧ (L.length : Int) % z = 0 ∧ 1 ≤ (L.length : Int) / z ∧ (L.length : Int) / z ≤ 16384
    · obtain ⟨h1, h2, h3, h4, h5⟩ := hb
      obtain ⟨m, rfl⟩ := Int.eq_ofNat_of_zero_le (by omega : 0 ≤ z)
      obtain ⟨n, hn⟩ := Int.eq_ofNat_of_zero_le (by omega : 0 ≤ (L.length : Int) / m)
      have hdd := Int.mul_ediv_add_emod (L.length : Int) (m : Int)
      rw [h3, Int.add_zero, hn] at hdd
      have hl : L.length = n * m := by
        have : ((m * n : Nat) : Int) = (L.length : Nat) := by push_cast; exact hdd
        have := Int.ofNat_inj.1 this
        rw [← this, Nat.mul_comm]
      obtain ⟨A', c', hv, -, -, -, h6, -⟩ := id hr
      injection hv with hA _ _
      obtain ⟨b, o, hA2, -, -⟩ := h6 (by rw [hl]; exact Nat.mul_pos (by omega) (by omega))
      rw [← hA] at hA2
      subst hA2
      rw [hl] at hr ⊢
      exact diskof_ok b o c n m g L w hr (by omega) (by omega) (by omega) (by omega)
    · exact diskof_bad A _ c z w h hz2 hb
end Go.Proofs.Ytnddaildicmneaa
