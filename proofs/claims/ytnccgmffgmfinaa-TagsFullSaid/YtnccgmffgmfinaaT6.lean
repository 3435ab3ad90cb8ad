/-
  tag: the statement TagsFull, walked.
-/
import Derived.Test.YtnccgmffgmfinaaT5
import Derived.BigQuiet
namespace Go.Proofs.Ytnccgmffgmfinaa
open Go.RowKit Go.Shelf

def askedN (n : Nat) : List Nat := (List.range n).map fun i => 100 + i
theorem asked_len (n : Nat) : (askedN n).length = n := by simp [askedN]
theorem asked_no {n x : Nat} (h : 100 + n ≤ x) : (askedN n).contains x = false := by
  cases hc : (askedN n).contains x with
  | false => rfl
  | true =>
    have hm := List.contains_iff_mem.1 hc
    obtain ⟨i, hi, rfl⟩ := List.mem_map.1 hm
    rw [List.mem_range] at hi
    omega
theorem asked_put {i : Nat} (h : i < 32) : askE (askedN i) (100 + i) = 0 ∧ askL (askedN i) (100 + i) = askedN (i + 1) := by
  have hE : askE (askedN i) (100 + i) = 0 := by rw [askE, asked_no (Nat.le_refl _), if_neg (by simp), if_neg (by rw [asked_len]; omega)]
  exact ⟨hE, by rw [askL, if_pos hE]; simp [askedN, List.range_succ]⟩
theorem asked_over {i : Nat} (h : 32 ≤ i) : askE (askedN 32) (100 + i) = 14 ∧ askL (askedN 32) (100 + i) = askedN 32 := by
  have hE : askE (askedN 32) (100 + i) = 14 := by rw [askE, asked_no (by omega), if_neg (by simp), if_pos (by rw [asked_len]; omega)]
  exact ⟨hE, by rw [askL, if_neg (by rw [hE]; decide)]⟩
theorem asked_end : ∀ j : Fin 32, (askedN 32).contains (100 + j.val) = true ∧ askE (askedN 32) (100 + j.val) = 16 ∧ askL (askedN 32) (100 + j.val) = askedN 32 ∧
    askE (doneA (askedN 32) (100 + j.val)) 7 = 0 ∧ askL (doneA (askedN 32) (100 + j.val)) 7 = doneA (askedN 32) (100 + j.val) ++ [7] ∧ askE (doneA (askedN 32) (100 + j.val) ++ [7]) 8 = 14 ∧ askL (doneA (askedN 32) (100 + j.val) ++ [7]) 8 = doneA (askedN 32) (100 + j.val) ++ [7] ∧
    (doneA (askedN 32) (100 + j.val) ++ [7]).length = 32 ∧ (doneA (askedN 32) (100 + j.val) ++ [7])[31]? = some 7 ∧ (doneA (askedN 32) (100 + j.val)).length = 31 := by decide +kernel
theorem doneW_nil (ts : List Nat) (x : Nat) : doneW ts [] x = [] := by unfold doneW; split <;> rfl
theorem ask_nil (x : Nat) : askE [] x = 0 := by simp [askE]

set_option maxRecDepth 20000 in
set_option maxHeartbeats 8000000 in
theorem tfull_any (a b : Nat) (w : World) (ha : a < 256) (hb : b < 256) : Calls Try.prog 12 #[.int .u8 a, .int .u8 b] w (YesT w) := by
  obtain ⟨m, hm⟩ : ∃ m, m = a % 4 := ⟨_, rfl⟩
  have hm3 : m < 4 := by rw [hm]; exact Nat.mod_lt _ (by omega)
  have hw1 : (a : Int).tmod 4 = m := by rw [Int.tmod_eq_emod_of_nonneg (by omega), hm]; simp
  have hw2 : (a : Int) % 4 = m := by rw [hm]; simp
  have hw3 : IntKind.i64.wrap (m : Int) = m := IntWalk.i64_in _ (by omega)
  have hw4 : IntKind.i64.wrap (32 + (m : Int)) = 32 + m := IntWalk.i64_in _ (by omega)
  obtain ⟨N, hN⟩ : ∃ N, N = 32 := ⟨_, rfl⟩
  have Hm := Lib.hid hm
  have HN := Lib.hid hN
  clear hm hN
  go_enter Try.func12, Try.ntmps12
  go_wp2_with fail
  refine (known21 _).mono ?_
  rintro e w0 ⟨rfl, hk0⟩
  go_wp2_with fail
  refine (own_tnew w _ hk0).mono ?_
  rintro e w1 ⟨p, rfl, h1⟩
  clear hk0
  unfold tp
  have H1 := Lib.hid h1
  clear h1
  go_wp2_with fail
  go_loopw [6] (fun iv wr => ∃ i : Nat, iv = .int .i64 i ∧ i ≤ 32 + m ∧ ∃ g h, TOwn w wr p g h (askedN (min i N)) []) (fun iv _ => 32 + m - (intOf iv).toNat)
  case atStart => exact ⟨0, rfl, Nat.zero_le _, none, none, H1.out⟩
  case round =>
    obtain ⟨i, rfl, hi, g, h, hq⟩ := hrel
    by_cases hlt : i < 32 + m
    · have hltI : (i : Int) < 32 + m := by omega
      have hi1 : IntKind.i64.wrap ((i : Int) + 1) = i + 1 := IntWalk.i64_in _ (by omega)
      obtain ⟨x, hx⟩ : ∃ x, x = 100 + i := ⟨_, rfl⟩
      have v1 : IntKind.i64.wrap (100 + (i : Int)) = (x : Int) := by rw [show (100 : Int) + i = (x : Int) by omega]; exact IntWalk.i64_in _ (by omega)
      have v2 : IntKind.u16.wrap (x : Int) = x := by rw [IntKind.wrap_u16]; omega
      have hP := own_ask x hq (by rw [asked_len]; have := HN.out; omega)
      unfold tp at hP
      rw [hx] at hP
      by_cases h32 : i < 32
      · rw [show min i N = i by have := HN.out; omega, (asked_put h32).1, (asked_put h32).2, ← hx] at hP
        have hI : (i : Int) < 32 := by omega
        have HP := Lib.hid hP
        have Hx := Lib.hid hx
        have Hq := Lib.hid hq
        clear hP hx hq
        go_wp2_with fail
        refine HP.out.mono ?_
        rintro e w2 ⟨rfl, g2, h2, -, -⟩
        have H2 := Lib.hid h2
        clear h2
        go_wp2_with fail
        go_roundw
        case rel => exact ⟨i + 1, by simp, by omega, g2, h, by rw [show min (i + 1) N = i + 1 by have := HN.out; omega]; exact H2.out⟩
        case measure => simp [intOf]; omega
      · rw [show min i N = N by have := HN.out; omega, HN.out, (asked_over (by omega)).1, (asked_over (by omega)).2, ← hx] at hP
        have hI : ¬ (i : Int) < 32 := by omega
        have hI2 : (32 : Int) ≤ i := by omega
        have HP := Lib.hid hP
        have Hx := Lib.hid hx
        have Hq := Lib.hid hq
        clear hP hx hq
        go_wp2_with fail
        refine HP.out.mono ?_
        rintro e w2 ⟨rfl, g2, h2, -, -⟩
        have H2 := Lib.hid h2
        clear h2
        go_wp2_with fail
        go_roundw
        case rel => exact ⟨i + 1, by simp, by omega, g2, h, by rw [show min (i + 1) N = 32 by have := HN.out; omega]; exact H2.out⟩
        case measure => simp [intOf]; omega
    · obtain rfl : i = 32 + m := by omega
      rw [show min (32 + m) N = 32 by have := HN.out; omega] at hq
      obtain ⟨j, hj⟩ : ∃ j, j = b % 32 := ⟨_, rfl⟩
      have hj32 : j < 32 := by rw [hj]; exact Nat.mod_lt _ (by omega)
      obtain ⟨c1, e1, l1, e2, l2, e3, l3, n3, x3, n2⟩ := asked_end ⟨j, hj32⟩
      simp only at c1 e1 l1 e2 l2 e3 l3 n3 x3 n2
      obtain ⟨k, hk⟩ : ∃ k, k = 100 + j := ⟨_, rfl⟩
      rw [← hk] at c1 e1 l1 e2 l2 e3 l3 n3 x3 n2
      obtain ⟨T, hT⟩ : ∃ T, T = askedN 32 := ⟨_, rfl⟩
      rw [← hT] at c1 e1 l1 e2 l2 e3 l3 n3 x3 n2 hq
      have hTl : T.length = 32 := by rw [hT, asked_len]
      obtain ⟨D, hD⟩ : ∃ D, D = doneA T k := ⟨_, rfl⟩
      rw [← hD] at e2 l2 e3 l3 n3 x3 n2
      have v1 : (b : Int).tmod 32 = j := by rw [Int.tmod_eq_emod_of_nonneg (by omega), hj]; simp
      have v2 : (b : Int) % 32 = j := by rw [hj]; simp
      have v3 : IntKind.i64.wrap (j : Int) = j := IntWalk.i64_in _ (by omega)
      have v4 : IntKind.i64.wrap (100 + (j : Int)) = (k : Int) := by rw [show (100 : Int) + j = (k : Int) by omega]; exact IntWalk.i64_in _ (by omega)
      have v5 : IntKind.u16.wrap (k : Int) = k := by rw [IntKind.wrap_u16]; omega
      have hsum : (((32 + m : Nat)) : Int) = 32 + m := by simp
      have hA := own_ask k hq (by rw [hTl]; omega)
      rw [e1, l1] at hA
      unfold tp at hA
      clear e1 l1 hq
      have HA := Lib.hid hA
      have Hj := Lib.hid hj
      have Hk := Lib.hid hk
      have HT := Lib.hid hT
      have HTl := Lib.hid hTl
      have HD := Lib.hid hD
      have C1 := Lib.hid c1
      have E2 := Lib.hid e2
      have L2 := Lib.hid l2
      have E3 := Lib.hid e3
      have L3 := Lib.hid l3
      have N3 := Lib.hid n3
      have X3 := Lib.hid x3
      have N2 := Lib.hid n2
      clear hA hj hk hT hTl hD c1 e2 l2 e3 l3 n3 x3 n2
      go_wp2_with fail
      refine HA.out.mono ?_
      rintro e w2 ⟨rfl, g2, h2, -, -⟩
      have hB := own_done k h2 (by rw [HTl.out]; omega) (by simp)
      rw [C1.out, ← HD.out, doneW_nil] at hB
      unfold tp at hB
      have H2 := Lib.hid h2
      have HB := Lib.hid hB
      clear h2 hB
      go_wp2_with fail
      refine HB.out.mono ?_
      rintro e w3 ⟨rfl, h3, -⟩
      have hC := own_ask 7 h3 (by rw [N2.out]; omega)
      rw [E2.out, L2.out] at hC
      unfold tp at hC
      have H3 := Lib.hid h3
      have HC := Lib.hid hC
      clear h3 hC
      go_wp2_with fail
      refine HC.out.mono ?_
      rintro e w4 ⟨rfl, g4, h4, -, -⟩
      have hE := own_ask 8 h4 (by rw [N3.out]; omega)
      rw [E3.out, L3.out] at hE
      unfold tp at hE
      have H4 := Lib.hid h4
      have HE := Lib.hid hE
      clear h4 hE
      go_wp2_with fail
      refine HE.out.mono ?_
      rintro e w5 ⟨rfl, g5, h5, -, -⟩
      have hF := own_all h5 (by rw [N3.out]; omega)
      unfold tp at hF
      have H5 := Lib.hid h5
      have HF := Lib.hid hF
      clear h5 hF
      go_wp2_with fail
      refine HF.out.mono ?_
      rintro e w6 ⟨v6, gb6, rfl, hr6, hn6, h6, hk6⟩
      obtain ⟨A6, c6, rfl⟩ := rdU_form hr6
      rw [N3.out] at hr6 ⊢
      have hG := own_reset h6
      unfold tp at hG
      have H6 := Lib.hid h6
      have Hk6 := Lib.hid hk6
      have HG := Lib.hid hG
      clear h6 hk6 hG
      go_wp2_with fail
      refine HG.out.mono ?_
      rintro e w7 ⟨rfl, h7, hk7⟩
      obtain ⟨b6, f6, c6', hv6, -, -, hx6⟩ := rdU_at (hr6.keep hk7 hn6) (by rw [N3.out]; decide)
      rw [N3.out] at hv6
      injection hv6 with hA6 _ hc6
      subst hA6 hc6
      have x6 := hx6 31 7 X3.out
      have hH := own_all h7 (by simp)
      unfold tp at hH
      clear hr6 hn6 hx6
      have H7 := Lib.hid h7
      have Hk7 := Lib.hid hk7
      have HH := Lib.hid hH
      clear h7 hk7 hH
      go_wp2_with fail
      refine HH.out.mono ?_
      rintro e w8 ⟨v8, gb8, rfl, hr8, -, h8, -⟩
      obtain ⟨A8, c8, rfl⟩ := rdU_form hr8
      simp only [List.length_nil]
      have hI := own_ask k h8 (by simp)
      rw [ask_nil] at hI
      unfold tp at hI
      clear hr8
      have H8 := Lib.hid h8
      have HI := Lib.hid hI
      clear h8 hI
      go_wp2_with fail
      refine HI.out.mono ?_
      rintro e w9 ⟨rfl, g9, h9, -, -⟩
      have H9 := Lib.hid h9
      clear h9
      go_wp2_with fail
      go_ret
      exact ⟨rfl, H9.out.k⟩
end Go.Proofs.Ytnccgmffgmfinaa
