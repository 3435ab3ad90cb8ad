/-
  loggialaw12.BlocksFind: the walk.
-/
import Derived.Test.YtnccgmffgmfinaaBPlain
namespace Go.Proofs.Ytnccgmffgmfinaa
open Go.RowKit

set_option maxRecDepth 8000 in
set_option maxHeartbeats 2000000 in
theorem bfind_no (off : Nat) (b : Int) (w : World) (hu : off < 18446744073709551616) (hg : goodB b = false) : Calls Try.prog 3 #[.int .u64 off, .int .i64 b] w (Yes w) := by
  have hE : findE off b = 1 := by rw [findE, if_neg (by rw [hg]; simp)]
  obtain ⟨R, hR⟩ : ∃ R, R = findR off b := ⟨_, rfl⟩
  obtain ⟨M, hM⟩ : ∃ M, M = mostB b := ⟨_, rfl⟩
  obtain ⟨k, x, y, m⟩ := R
  have HE := Lib.hid hE
  have HR := Lib.hid hR
  have HM := Lib.hid hM
  have Hg := Lib.hid hg
  clear hE hR hM hg
  go_enter Try.func3, Try.ntmps3
  go_wp2_with fail
  refine (known12 _).mono ?_
  rintro e w1 ⟨rfl, hk1⟩
  go_wp2_with fail
  refine (find_any off b _ hu).mono ?_
  rintro e w2 ⟨he, hk2⟩
  rw [← HR.out, HE.out] at he
  obtain rfl : e = .returned (.tuple #[.agg #[.int .i64 k, .int .i64 x, .int .i64 y, .int .i64 m], .int .i64 1]) := he
  have hk3 := (hk1.more hk2).alloc (.cells #[.int .i64 k, .int .i64 x, .int .i64 y, .int .i64 m] 25)
  clear hk1 hk2
  have Hk3 := Lib.hid hk3
  clear hk3
  go_wp2_with fail
  refine (most_any b _).mono ?_
  rintro e w3 ⟨rfl, hk4⟩
  rw [← HM.out]
  have hk5 := Hk3.out.more hk4
  clear hk4
  have Hk5 := Lib.hid hk5
  clear hk5
  go_wp2_with fail
  refine (law_most b _).mono ?_
  rintro e w4 ⟨rfl, rfl⟩
  rw [← HM.out]
  go_wp2_with fail
  refine (law_good b _).mono ?_
  rintro e w4 ⟨rfl, rfl⟩
  rw [Hg.out]
  go_wp2_with fail
  go_ret
  exact ⟨rfl, Hk5.out⟩

set_option maxRecDepth 8000 in
set_option maxHeartbeats 2000000 in
theorem bfind_far (off : Nat) (b : Int) (w : World) (hu : off < 18446744073709551616) (hg : goodB b = true) (ho : mostB b ≤ off) : Calls Try.prog 3 #[.int .u64 off, .int .i64 b] w (Yes w) := by
  have hE := findE_far hg ho
  obtain ⟨R, hR⟩ : ∃ R, R = findR off b := ⟨_, rfl⟩
  obtain ⟨M, hM⟩ : ∃ M, M = mostB b := ⟨_, rfl⟩
  obtain ⟨k, x, y, m⟩ := R
  rw [← hM] at ho
  have hge : (M : Int) ≤ off := by omega
  have HE := Lib.hid hE
  have HR := Lib.hid hR
  have HM := Lib.hid hM
  have Hg := Lib.hid hg
  clear hE hR hM hg
  go_enter Try.func3, Try.ntmps3
  go_wp2_with fail
  refine (known12 _).mono ?_
  rintro e w1 ⟨rfl, hk1⟩
  go_wp2_with fail
  refine (find_any off b _ hu).mono ?_
  rintro e w2 ⟨he, hk2⟩
  rw [← HR.out, HE.out] at he
  obtain rfl : e = .returned (.tuple #[.agg #[.int .i64 k, .int .i64 x, .int .i64 y, .int .i64 m], .int .i64 3]) := he
  have hk3 := (hk1.more hk2).alloc (.cells #[.int .i64 k, .int .i64 x, .int .i64 y, .int .i64 m] 25)
  clear hk1 hk2
  have Hk3 := Lib.hid hk3
  clear hk3
  go_wp2_with fail
  refine (most_any b _).mono ?_
  rintro e w3 ⟨rfl, hk4⟩
  rw [← HM.out]
  have hk5 := Hk3.out.more hk4
  clear hk4
  have Hk5 := Lib.hid hk5
  clear hk5
  go_wp2_with fail
  refine (law_most b _).mono ?_
  rintro e w4 ⟨rfl, rfl⟩
  rw [← HM.out]
  go_wp2_with fail
  refine (law_good b _).mono ?_
  rintro e w4 ⟨rfl, rfl⟩
  rw [Hg.out]
  go_wp2_with fail
  refine (law_most b _).mono ?_
  rintro e w4 ⟨rfl, rfl⟩
  rw [← HM.out]
  go_wp2_with fail
  go_ret
  exact ⟨rfl, Hk5.out⟩

set_option maxRecDepth 8000 in
set_option maxHeartbeats 4000000 in
theorem bfind_ok (off : Nat) (b : Int) (w : World) (hg : goodB b = true) (ho : off < mostB b) : Calls Try.prog 3 #[.int .u64 off, .int .i64 b] w (Yes w) := by
  have hE := findE_ok hg ho
  have hB := back_find hg ho
  obtain ⟨M, hM⟩ : ∃ M, M = mostB b := ⟨_, rfl⟩
  obtain ⟨R, hR⟩ : ∃ R, R = findR off b := ⟨_, rfl⟩
  rw [← hR] at hB
  have hk := findR_ok hg ho
  obtain ⟨B, t, rfl, ht, ht1, ht2, hBt, hm⟩ := good_nat hg
  rw [Int.toNat_natCast, road_key, ← ht, ← hR] at hk
  rw [← hM] at ho
  have hu : off < 18446744073709551616 := by
    rw [hM] at ho
    have := good_cases hg
    obtain ⟨v1, v2, v3, v4, v5⟩ := most_vals
    rcases this with h | h | h | h | h <;> rw [h] at ho <;> omega
  have hnb : off / B ≤ off := Nat.div_le_self _ _
  have hmb : off % B < B := Nat.mod_lt _ (by omega)
  obtain ⟨n, hn⟩ : ∃ n, n = off / B := ⟨_, rfl⟩
  obtain ⟨m, hm'⟩ : ∃ m, m = off % B := ⟨_, rfl⟩
  have hM9 : off < 70000000 := by
    rw [hM] at ho
    have := good_cases hg
    obtain ⟨v1, v2, v3, v4, v5⟩ := most_vals
    rcases this with h | h | h | h | h <;> rw [h] at ho <;> omega
  have q1 : (off : Int) / B = n := by rw [hn]; simp
  have q2 : (off : Int) % B = m := by rw [hm']; simp
  rw [← hn] at hk hnb
  rw [← hm'] at hk hmb
  have f0 : IntKind.u64.wrap (B : Int) = B := by rw [IntKind.wrap_u64]; omega
  have f1 : IntKind.u64.wrap ((off : Int).tdiv B) = n := by rw [Int.tdiv_eq_ediv_of_nonneg (by omega), q1, IntKind.wrap_u64]; omega
  have f2 : IntKind.u64.wrap ((off : Int) / B) = n := by rw [q1, IntKind.wrap_u64]; omega
  have f3 : IntKind.i64.wrap (n : Int) = n := IntWalk.i64_in _ (by omega)
  have f4 : IntKind.i64.wrap (m : Int) = m := IntWalk.i64_in _ (by omega)
  have f5 : (off : Int).tmod B = m := by rw [Int.tmod_eq_emod_of_nonneg (by omega), q2]
  have f6 : (B : Int) / 4 = t := by omega
  have f7 : IntKind.i64.wrap (t : Int) = t := IntWalk.i64_in _ (by omega)
  have f8 : ¬ (B : Int) = 0 := by omega
  have f9 : ¬ (t : Int) = 0 := by omega
  have hlt : ¬ (M : Int) ≤ off := by omega
  have HE := Lib.hid hE
  have HB := Lib.hid hB
  have HM := Lib.hid hM
  have Hg := Lib.hid hg
  have Hn := Lib.hid hn
  have Hm' := Lib.hid hm'
  have Hm := Lib.hid hm
  have HR := Lib.hid hR
  have Ht := Lib.hid ht
  have HBt := Lib.hid hBt
  clear hE hB hM hg hn hm' hm hR ht hBt
  by_cases h8 : n < 8
  · have hk1 : R = ⟨1, n, 0, m⟩ := by rw [hk, keyR, if_pos h8]
    have g1 : ¬ (8 : Int) + t ≤ n := by omega
    have g2 : ¬ (8 : Int) ≤ n := by omega
    subst hk1
    clear hk
    go_enter Try.func3, Try.ntmps3
    go_wp2_with fail
    refine (known12 _).mono ?_
    rintro e w1 ⟨rfl, hk1⟩
    go_wp2_with fail
    refine (find_any off B _ hu).mono ?_
    rintro e w2 ⟨he, hk2⟩
    rw [← HR.out, HE.out] at he
    obtain rfl : e = .returned (.tuple #[.agg #[.int .i64 1, .int .i64 n, .int .i64 0, .int .i64 m], .int .i64 0]) := he
    have hk3 := (hk1.more hk2).alloc (.cells #[.int .i64 1, .int .i64 n, .int .i64 0, .int .i64 m] 25)
    have hb3 := Blk.new w2 25 #[.int .i64 1, .int .i64 n, .int .i64 0, .int .i64 m]
    clear hk1 hk2
    have Hk3 := Lib.hid hk3
    have Hb3 := Lib.hid hb3
    clear hk3 hb3
    go_wp2_with fail
    refine (most_any B _).mono ?_
    rintro e w3 ⟨rfl, hk4⟩
    rw [← HM.out]
    have hk5 := Hk3.out.more hk4
    have hb5 := Hb3.out.keep hk4 (fun h => h)
    clear hk4
    have Hk5 := Lib.hid hk5
    have Hb5 := Lib.hid hb5
    clear hk5 hb5
    go_wp2_with fail
    refine (law_most B _).mono ?_
    rintro e w4 ⟨rfl, rfl⟩
    rw [← HM.out]
    go_wp2_with fail
    refine (law_good B _).mono ?_
    rintro e w4 ⟨rfl, rfl⟩
    rw [Hg.out]
    go_wp2_with fail
    refine (law_most B _).mono ?_
    rintro e w4 ⟨rfl, rfl⟩
    rw [← HM.out]
    have hb9 := Blk.new w3 25 #[.int .i64 1, .int .i64 n, .int .i64 0, .int .i64 m]
    have hb6 := Hb5.out.alloc (.cells #[.int .i64 1, .int .i64 n, .int .i64 0, .int .i64 m] 25)
    have hk6 := Hk5.out.alloc (.cells #[.int .i64 1, .int .i64 n, .int .i64 0, .int .i64 m] 25)
    have c0 := hb6.cell 0
    have c1 := hb6.cell 1
    have c2 := hb6.cell 2
    have c3 := hb6.cell 3
    simp at c0 c1 c2 c3
    have Hb9 := Lib.hid hb9
    have Hb6 := Lib.hid hb6
    have Hk6 := Lib.hid hk6
    clear hb9 hb6 hk6
    go_wp2_with fail
    refine (back_any ⟨1, n, 0, m⟩ B _).mono ?_
    rintro e w4 ⟨he, hk7⟩
    rw [HB.out.1, HB.out.2] at he
    subst he
    have hb7 := Hb6.out.keep hk7 (fun h => h)
    have hb8 := Hb9.out.keep hk7 (fun h => h)
    have hk8 := Hk6.out.more hk7
    clear c0 c1 c2 c3
    have c0 := hb7.cell 0
    have c1 := hb7.cell 1
    have c2 := hb7.cell 2
    have c3 := hb7.cell 3
    have d0 := hb8.cell 0
    have d1 := hb8.cell 1
    have d2 := hb8.cell 2
    have d3 := hb8.cell 3
    simp at c0 c1 c2 c3 d0 d1 d2 d3
    clear hk7
    have Hb7 := Lib.hid hb7
    have Hb8 := Lib.hid hb8
    have Hk8 := Lib.hid hk8
    clear hb7 hb8 hk8
    go_wp2_with fail
    go_ret
    exact ⟨rfl, Hk8.out⟩
  · by_cases h9 : n < 8 + t
    · obtain ⟨A, hA⟩ : ∃ A : Int, A = (n : Int) - 8 := ⟨_, rfl⟩
      have hk1 : R = ⟨2, A, 0, m⟩ := by rw [hk, keyR, if_neg h8, if_pos h9, hA]; congr 1; omega
      have g1 : ¬ (8 : Int) + t ≤ n := by omega
      have g2 : (8 : Int) ≤ n := by omega
      have g3 : (n : Int) - 8 = A := hA.symm
      have g4 : IntKind.i64.wrap A = A := IntWalk.i64_in _ (by omega)
      clear hA
      subst hk1
      clear hk
      go_enter Try.func3, Try.ntmps3
      go_wp2_with fail
      refine (known12 _).mono ?_
      rintro e w1 ⟨rfl, hk1⟩
      go_wp2_with fail
      refine (find_any off B _ hu).mono ?_
      rintro e w2 ⟨he, hk2⟩
      rw [← HR.out, HE.out] at he
      obtain rfl : e = .returned (.tuple #[.agg #[.int .i64 2, .int .i64 A, .int .i64 0, .int .i64 m], .int .i64 0]) := he
      have hk3 := (hk1.more hk2).alloc (.cells #[.int .i64 2, .int .i64 A, .int .i64 0, .int .i64 m] 25)
      have hb3 := Blk.new w2 25 #[.int .i64 2, .int .i64 A, .int .i64 0, .int .i64 m]
      clear hk1 hk2
      have Hk3 := Lib.hid hk3
      have Hb3 := Lib.hid hb3
      clear hk3 hb3
      go_wp2_with fail
      refine (most_any B _).mono ?_
      rintro e w3 ⟨rfl, hk4⟩
      rw [← HM.out]
      have hk5 := Hk3.out.more hk4
      have hb5 := Hb3.out.keep hk4 (fun h => h)
      clear hk4
      have Hk5 := Lib.hid hk5
      have Hb5 := Lib.hid hb5
      clear hk5 hb5
      go_wp2_with fail
      refine (law_most B _).mono ?_
      rintro e w4 ⟨rfl, rfl⟩
      rw [← HM.out]
      go_wp2_with fail
      refine (law_good B _).mono ?_
      rintro e w4 ⟨rfl, rfl⟩
      rw [Hg.out]
      go_wp2_with fail
      refine (law_most B _).mono ?_
      rintro e w4 ⟨rfl, rfl⟩
      rw [← HM.out]
      have hb9 := Blk.new w3 25 #[.int .i64 2, .int .i64 A, .int .i64 0, .int .i64 m]
      have hb6 := Hb5.out.alloc (.cells #[.int .i64 2, .int .i64 A, .int .i64 0, .int .i64 m] 25)
      have hk6 := Hk5.out.alloc (.cells #[.int .i64 2, .int .i64 A, .int .i64 0, .int .i64 m] 25)
      have c0 := hb6.cell 0
      have c1 := hb6.cell 1
      have c2 := hb6.cell 2
      have c3 := hb6.cell 3
      simp at c0 c1 c2 c3
      have Hb9 := Lib.hid hb9
      have Hb6 := Lib.hid hb6
      have Hk6 := Lib.hid hk6
      clear hb9 hb6 hk6
      go_wp2_with fail
      refine (back_any ⟨2, A, 0, m⟩ B _).mono ?_
      rintro e w4 ⟨he, hk7⟩
      rw [HB.out.1, HB.out.2] at he
      subst he
      have hb7 := Hb6.out.keep hk7 (fun h => h)
      have hb8 := Hb9.out.keep hk7 (fun h => h)
      have hk8 := Hk6.out.more hk7
      clear c0 c1 c2 c3
      have c0 := hb7.cell 0
      have c1 := hb7.cell 1
      have c2 := hb7.cell 2
      have c3 := hb7.cell 3
      have d0 := hb8.cell 0
      have d1 := hb8.cell 1
      have d2 := hb8.cell 2
      have d3 := hb8.cell 3
      simp at c0 c1 c2 c3 d0 d1 d2 d3
      clear hk7
      have Hb7 := Lib.hid hb7
      have Hb8 := Lib.hid hb8
      have Hk8 := Lib.hid hk8
      clear hb7 hb8 hk8
      go_wp2_with fail
      go_ret
      exact ⟨rfl, Hk8.out⟩
    · obtain ⟨A, hA⟩ : ∃ A : Int, A = (n : Int) - 8 := ⟨_, rfl⟩
      obtain ⟨C, hC⟩ : ∃ C : Int, C = A - t := ⟨_, rfl⟩
      obtain ⟨X, hX⟩ : ∃ X : Int, X = C / t := ⟨_, rfl⟩
      obtain ⟨Y, hY⟩ : ∃ Y : Int, Y = C % t := ⟨_, rfl⟩
      have hC0 : 0 ≤ C := by omega
      have hk1 : R = ⟨3, X, Y, m⟩ := by
        have hc : C = ((n - 8 - t : Nat) : Int) := by omega
        rw [hk, keyR, if_neg h8, if_neg h9, hX, hY, hc]; simp
      have hX0 : 0 ≤ X := by rw [hX]; exact Int.ediv_nonneg hC0 (by omega)
      have hX1 : X ≤ C := by rw [hX]; exact Int.ediv_le_self _ hC0
      have hY0 : 0 ≤ Y := by rw [hY]; exact Int.emod_nonneg _ (by omega)
      have hY1 : Y < t := by rw [hY]; exact Int.emod_lt_of_pos _ (by omega)
      have g1 : (8 : Int) + t ≤ n := by omega
      have g3 : (n : Int) - 8 = A := hA.symm
      have g5 : A - t = C := hC.symm
      have g4 : IntKind.i64.wrap A = A := IntWalk.i64_in _ (by omega)
      have g6 : IntKind.i64.wrap C = C := IntWalk.i64_in _ (by omega)
      have g7 : IntKind.i64.wrap X = X := IntWalk.i64_in _ (by omega)
      have g8 : IntKind.i64.wrap Y = Y := IntWalk.i64_in _ (by omega)
      have g9 : C.tdiv t = X := by rw [Int.tdiv_eq_ediv_of_nonneg hC0, hX]
      have g10 : C.tmod t = Y := by rw [Int.tmod_eq_emod_of_nonneg hC0, hY]
      clear hA hC hX hY hX0 hX1 hY0 hY1 hC0
      subst hk1
      clear hk
      go_enter Try.func3, Try.ntmps3
      go_wp2_with fail
      refine (known12 _).mono ?_
      rintro e w1 ⟨rfl, hk1⟩
      go_wp2_with fail
      refine (find_any off B _ hu).mono ?_
      rintro e w2 ⟨he, hk2⟩
      rw [← HR.out, HE.out] at he
      obtain rfl : e = .returned (.tuple #[.agg #[.int .i64 3, .int .i64 X, .int .i64 Y, .int .i64 m], .int .i64 0]) := he
      have hk3 := (hk1.more hk2).alloc (.cells #[.int .i64 3, .int .i64 X, .int .i64 Y, .int .i64 m] 25)
      have hb3 := Blk.new w2 25 #[.int .i64 3, .int .i64 X, .int .i64 Y, .int .i64 m]
      clear hk1 hk2
      have Hk3 := Lib.hid hk3
      have Hb3 := Lib.hid hb3
      clear hk3 hb3
      go_wp2_with fail
      refine (most_any B _).mono ?_
      rintro e w3 ⟨rfl, hk4⟩
      rw [← HM.out]
      have hk5 := Hk3.out.more hk4
      have hb5 := Hb3.out.keep hk4 (fun h => h)
      clear hk4
      have Hk5 := Lib.hid hk5
      have Hb5 := Lib.hid hb5
      clear hk5 hb5
      go_wp2_with fail
      refine (law_most B _).mono ?_
      rintro e w4 ⟨rfl, rfl⟩
      rw [← HM.out]
      go_wp2_with fail
      refine (law_good B _).mono ?_
      rintro e w4 ⟨rfl, rfl⟩
      rw [Hg.out]
      go_wp2_with fail
      refine (law_most B _).mono ?_
      rintro e w4 ⟨rfl, rfl⟩
      rw [← HM.out]
      have hb9 := Blk.new w3 25 #[.int .i64 3, .int .i64 X, .int .i64 Y, .int .i64 m]
      have hb6 := Hb5.out.alloc (.cells #[.int .i64 3, .int .i64 X, .int .i64 Y, .int .i64 m] 25)
      have hk6 := Hk5.out.alloc (.cells #[.int .i64 3, .int .i64 X, .int .i64 Y, .int .i64 m] 25)
      have c0 := hb6.cell 0
      have c1 := hb6.cell 1
      have c2 := hb6.cell 2
      have c3 := hb6.cell 3
      simp at c0 c1 c2 c3
      have Hb9 := Lib.hid hb9
      have Hb6 := Lib.hid hb6
      have Hk6 := Lib.hid hk6
      clear hb9 hb6 hk6
      go_wp2_with fail
      refine (back_any ⟨3, X, Y, m⟩ B _).mono ?_
      rintro e w4 ⟨he, hk7⟩
      rw [HB.out.1, HB.out.2] at he
      subst he
      have hb7 := Hb6.out.keep hk7 (fun h => h)
      have hb8 := Hb9.out.keep hk7 (fun h => h)
      have hk8 := Hk6.out.more hk7
      clear c0 c1 c2 c3
      have c0 := hb7.cell 0
      have c1 := hb7.cell 1
      have c2 := hb7.cell 2
      have c3 := hb7.cell 3
      have d0 := hb8.cell 0
      have d1 := hb8.cell 1
      have d2 := hb8.cell 2
      have d3 := hb8.cell 3
      simp at c0 c1 c2 c3 d0 d1 d2 d3
      clear hk7
      have Hb7 := Lib.hid hb7
      have Hb8 := Lib.hid hb8
      have Hk8 := Lib.hid hk8
      clear hb7 hb8 hk8
      go_wp2_with fail
      go_ret
      exact ⟨rfl, Hk8.out⟩

theorem bfind_any (off : Nat) (b : Int) (w : World) (hu : off < 18446744073709551616) : Calls Try.prog 3 #[.int .u64 off, .int .i64 b] w (Yes w) := by
  cases hg : goodB b with
  | false => exact bfind_no off b w hu hg
  | true =>
    by_cases h : mostB b ≤ off
    · exact bfind_far off b w hu hg h
    · exact bfind_ok off b w hg (by omega)
end Go.Proofs.Ytnccgmffgmfinaa
