/-
  loggialaw12.known.
-/
import Derived.Test.YtnccgmffgmfinaaBTables
namespace Go.Proofs.Ytnccgmffgmfinaa
open Go.RowKit

def roadA : Road := ⟨1, 1, 0, 6⟩
def roadB : Road := ⟨3, 0, 1, 1⟩
theorem findE_70 : findE 70 64 = 0 := by decide
theorem findE_1601 : findE 1601 64 = 0 := by decide
theorem findR_70 : findR 70 64 = roadA := by rw [findR, if_pos findE_70]; rfl
theorem findR_1601 : findR 1601 64 = roadB := by rw [findR, if_pos findE_1601]; rfl
theorem backO_B : backO roadB 64 = some 25 := by decide
theorem backN_B : backN roadB 64 = 1601 := by rw [backN, backO_B]; rfl
theorem backE_B : backE roadB 64 = 0 := by rw [backE, backO_B]
theorem most_64 : mostB 64 = 17920 := by decide
theorem tables_513 : tablesOf 513 64 = 1 := by decide

set_option maxRecDepth 8000 in
set_option maxHeartbeats 1000000 in
theorem known12 (w : World) : Calls Try.prog 13 #[] w (Yes w) := by
  go_enter Try.func13, Try.ntmps13
  go_wp2_with fail
  refine (find_any 70 64 _ (by omega)).mono ?_
  rintro e w1 ⟨he, hk1⟩
  rw [findR_70, findE_70] at he
  obtain rfl : e = .returned (.tuple #[.agg #[.int .i64 1, .int .i64 1, .int .i64 0, .int .i64 6], .int .i64 0]) := he
  have hk2 := hk1.alloc (.cells #[.int .i64 1, .int .i64 1, .int .i64 0, .int .i64 6] 25)
  have hb1 := Blk.new w1 25 #[.int .i64 1, .int .i64 1, .int .i64 0, .int .i64 6]
  clear hk1
  have Hk2 := Lib.hid hk2
  have Hb1 := Lib.hid hb1
  clear hk2 hb1
  go_wp2_with fail
  generalize w1.alloc (.cells #[.int .i64 1, .int .i64 1, .int .i64 0, .int .i64 6] 25) = w2 at *
  refine (find_any 1601 64 w2 (by omega)).mono ?_
  rintro e w3 ⟨he, hk3⟩
  rw [findR_1601, findE_1601] at he
  obtain rfl : e = .returned (.tuple #[.agg #[.int .i64 3, .int .i64 0, .int .i64 1, .int .i64 1], .int .i64 0]) := he
  have hk4 := (Hk2.out.more hk3).alloc (.cells #[.int .i64 3, .int .i64 0, .int .i64 1, .int .i64 1] 25)
  have hb3 := (Hb1.out.keep hk3 (fun h => h)).alloc (.cells #[.int .i64 3, .int .i64 0, .int .i64 1, .int .i64 1] 25)
  have hb4 := Blk.new w3 25 #[.int .i64 3, .int .i64 0, .int .i64 1, .int .i64 1]
  clear hk3
  have Hk4 := Lib.hid hk4
  have Hb3 := Lib.hid hb3
  have Hb4 := Lib.hid hb4
  clear hk4 hb3 hb4
  go_wp2_with fail
  generalize w3.alloc (.cells #[.int .i64 3, .int .i64 0, .int .i64 1, .int .i64 1] 25) = w4 at *
  refine (back_any roadB 64 w4).mono ?_
  rintro e w5 ⟨he, hk5⟩
  rw [backN_B, backE_B] at he
  subst he
  have hb5 := Hb3.out.keep hk5 (fun h => h)
  have hb6 := Hb4.out.keep hk5 (fun h => h)
  have hk6 := Hk4.out.more hk5
  have c0 := hb5.cell 0
  have c1 := hb5.cell 1
  have c3 := hb5.cell 3
  have d0 := hb6.cell 0
  have d1 := hb6.cell 1
  have d2 := hb6.cell 2
  have d3 := hb6.cell 3
  simp at c0 c1 c3 d0 d1 d2 d3
  clear hk5 hb5 hb6
  have Hk6 := Lib.hid hk6
  clear hk6
  go_wp2_with fail
  refine (most_any 64 _).mono ?_
  rintro e w6 ⟨rfl, hk7⟩
  rw [most_64]
  have hk8 := Hk6.out.more hk7
  clear hk7
  have Hk8 := Lib.hid hk8
  clear hk8
  go_wp2_with fail
  refine (tables_any 513 64 _ (by omega)).mono ?_
  rintro e w7 ⟨rfl, hk9⟩
  rw [tables_513]
  have hk10 := Hk8.out.more hk9
  clear hk9
  have Hk10 := Lib.hid hk10
  clear hk10
  go_wp2_with fail
  go_ret
  exact ⟨rfl, Hk10.out⟩

set_option maxRecDepth 8000 in
set_option maxHeartbeats 2000000 in
theorem btables_walk (size : Nat) (b : Int) (w : World) (hu : size < 18446744073709551616) : Calls Try.prog 5 #[.int .u64 size, .int .i64 b] w (Yes w) := by
  cases hg : goodB b with
  | false =>
    have hT : tablesOf size b = 0 := by rw [tablesOf, if_neg (by rw [hg]; simp)]
    go_enter Try.func5, Try.ntmps5
    go_wp2_with fail
    refine (known12 _).mono ?_
    rintro e w1 ⟨rfl, hk1⟩
    go_wp2_with fail
    refine (tables_any size b _ hu).mono ?_
    rintro e w2 ⟨rfl, hk2⟩
    rw [hT]
    go_wp2_with fail
    refine (law_good b _).mono ?_
    rintro e w3 ⟨rfl, rfl⟩
    rw [hg]
    have hk3 := hk1.more hk2
    have Hg := Lib.hid hg
    have HT := Lib.hid hT
    have Hk3 := Lib.hid hk3
    clear hg hT hk3
    go_wp2_with fail
    go_ret
    exact ⟨rfl, Hk3.out⟩
  | true =>
    have hb0 : 64 ≤ b ∧ b ≤ 1024 := by have := good_cases hg; omega
    obtain ⟨M, hM⟩ : ∃ M, M = mostB b := ⟨_, rfl⟩
    have hM2 : M ≤ 1000000000 := by
      rw [hM]; rcases good_cases hg with rfl | rfl | rfl | rfl | rfl <;> decide
    have hTe : tablesOf size b = tabN (((min size M : Nat) + b - 1) / b) (b / 4) := by rw [tablesOf, if_pos hg, hM]
    obtain ⟨T, hT⟩ : ∃ T, T = tablesOf size b := ⟨_, rfl⟩
    have hMb : ∀ s : Nat, s ≤ M → 0 ≤ ((s : Int) + b - 1) / b ∧ ((s : Int) + b - 1) / b ≤ 100000 := by
      rw [hM]
      intro s hs
      rcases good_cases hg with rfl | rfl | rfl | rfl | rfl
      · have : mostB 64 = 17920 := by decide
        omega
      · have : mostB 128 = 136192 := by decide
        omega
      · have : mostB 256 = 1067008 := by decide
        omega
      · have : mostB 512 = 8458240 := by decide
        omega
      · have : mostB 1024 = 67379200 := by decide
        omega
    have key : ∀ s : Nat, s ≤ M → s = min size M → Hid (∃ n : Int, n = ((s : Int) + b - 1) / b ∧ 0 ≤ n ∧ n ≤ 100000 ∧ tabN n (b / 4) = T ∧ IntKind.u64.wrap b = b ∧ IntKind.u64.wrap ((s : Int) + b) = s + b ∧ IntKind.u64.wrap ((s : Int) + b - 1) = s + b - 1 ∧
        IntKind.u64.wrap (((s : Int) + b - 1).tdiv b) = n ∧ IntKind.u64.wrap (((s : Int) + b - 1) / b) = n ∧ IntKind.i64.wrap n = n) := by
      intro s hs hm
      have h := hMb s hs
      refine Lib.hid ⟨_, rfl, h.1, h.2, by rw [hT, hTe, ← hm], ?_, ?_, ?_, ?_, ?_, IntWalk.i64_in _ (by omega)⟩
      · rw [IntKind.wrap_u64]; omega
      · rw [IntKind.wrap_u64]; omega
      · rw [IntKind.wrap_u64]; omega
      · rw [Int.tdiv_eq_ediv_of_nonneg (by omega), IntKind.wrap_u64]; omega
      · rw [IntKind.wrap_u64]; omega
    clear hMb hTe
    by_cases hbig : M < size
    · obtain ⟨n, hn, hn0, hn1, hn2, f1, f2, f3, f4, f5, f6⟩ := (key M (Nat.le_refl _) (by omega)).out
      have hgt : (M : Int) < size := by omega
      have hb1 : ¬ b = 0 := by omega
      clear key
      have Hn := Lib.hid hn
      have Hn2 := Lib.hid hn2
      have HT := Lib.hid hT
      have HM := Lib.hid hM
      clear hn hn2 hT hM
      go_enter Try.func5, Try.ntmps5
      go_wp2_with fail
      refine (known12 _).mono ?_
      rintro e w1 ⟨rfl, hk1⟩
      go_wp2_with fail
      refine (tables_any size b _ hu).mono ?_
      rintro e w2 ⟨rfl, hk2⟩
      rw [← HT.out]
      go_wp2_with fail
      refine (law_good b _).mono ?_
      rintro e w3 ⟨rfl, rfl⟩
      rw [hg]
      have hk3 := hk1.more hk2
      clear hk1 hk2
      have Hk3 := Lib.hid hk3
      clear hk3
      go_wp2_with fail
      refine (law_most b _).mono ?_
      rintro e w3 ⟨rfl, rfl⟩
      rw [← HM.out]
      go_wp2_with fail
      refine (law_most b _).mono ?_
      rintro e w3 ⟨rfl, rfl⟩
      rw [← HM.out]
      go_wp2_with fail
      refine (law_tables n b _ hg hn0 hn1).mono ?_
      rintro e w3 ⟨rfl, rfl⟩
      rw [Hn2.out]
      go_wp2_with fail
      go_ret
      exact ⟨rfl, Hk3.out⟩
    · obtain ⟨n, hn, hn0, hn1, hn2, f1, f2, f3, f4, f5, f6⟩ := (key size (by omega) (by omega)).out
      have hgt : ¬ (M : Int) < size := by omega
      have hb1 : ¬ b = 0 := by omega
      clear key
      have Hn := Lib.hid hn
      have Hn2 := Lib.hid hn2
      have HT := Lib.hid hT
      have HM := Lib.hid hM
      clear hn hn2 hT hM
      go_enter Try.func5, Try.ntmps5
      go_wp2_with fail
      refine (known12 _).mono ?_
      rintro e w1 ⟨rfl, hk1⟩
      go_wp2_with fail
      refine (tables_any size b _ hu).mono ?_
      rintro e w2 ⟨rfl, hk2⟩
      rw [← HT.out]
      go_wp2_with fail
      refine (law_good b _).mono ?_
      rintro e w3 ⟨rfl, rfl⟩
      rw [hg]
      have hk3 := hk1.more hk2
      clear hk1 hk2
      have Hk3 := Lib.hid hk3
      clear hk3
      go_wp2_with fail
      refine (law_most b _).mono ?_
      rintro e w3 ⟨rfl, rfl⟩
      rw [← HM.out]
      go_wp2_with fail
      refine (law_tables n b _ hg hn0 hn1).mono ?_
      rintro e w3 ⟨rfl, rfl⟩
      rw [Hn2.out]
      go_wp2_with fail
      go_ret
      exact ⟨rfl, Hk3.out⟩
end Go.Proofs.Ytnccgmffgmfinaa
