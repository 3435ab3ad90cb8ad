/-
  loggialaw25.QueueFlush: the walk.
-/
import Derived.Test.YtnccgmffgmfinaaQFlush
namespace Go.Proofs.Ytnccgmffgmfinaa
open Go.RowKit Go.Shelf

set_option maxRecDepth 8000 in
set_option maxHeartbeats 4000000 in
theorem qflush_any (a c : Nat) (w : World) (hc : c < 256) : Calls Try.prog 10 #[.int .u8 a, .int .u8 c] w (YesQ w) := by
  obtain ⟨m, hm⟩ : ∃ m, m = a % 30 := ⟨_, rfl⟩
  have hm3 : m < 30 := by rw [hm]; exact Nat.mod_lt _ (by omega)
  obtain ⟨k, hk⟩ : ∃ k, k = 1 + m := ⟨_, rfl⟩
  obtain ⟨x, hx⟩ : ∃ x, x = c % k := ⟨_, rfl⟩
  have hxk : x < k := by rw [hx]; exact Nat.mod_lt _ (by omega)
  have hk1 : 1 ≤ k := by omega
  have hk30 : k ≤ 30 := by omega
  have v1 : (a : Int).tmod 30 = m := by rw [Int.tmod_eq_emod_of_nonneg (by omega), hm]; simp
  have v2 : (a : Int) % 30 = m := by rw [hm]; simp
  have v3 : IntKind.i64.wrap (m : Int) = m := IntWalk.i64_in _ (by omega)
  have v4 : IntKind.i64.wrap (1 + (m : Int)) = k := by rw [show 1 + (m : Int) = k by omega]; exact IntWalk.i64_in _ (by omega)
  have v5 : (1 : Int) + m = k := by omega
  have v6 : IntKind.i64.wrap (c : Int) = c := IntWalk.i64_in _ (by omega)
  have v7 : (c : Int).tmod k = x := by rw [Int.tmod_eq_emod_of_nonneg (by omega), hx]; simp
  have v8 : (c : Int) % k = x := by rw [hx]; simp
  have v9 : IntKind.i64.wrap (x : Int) = x := IntWalk.i64_in _ (by omega)
  have v10 : IntKind.u16.wrap (x : Int) = x := by rw [IntKind.wrap_u16]; omega
  have v11 : ¬ (k : Int) = 0 := by omega
  have v12 : ¬ k = 0 := by omega
  have v13 : IntKind.i64.wrap (k : Int) = k := IntWalk.i64_in _ (by omega)
  have v14 : IntKind.i64.wrap ((k : Int) - 1) = ((k - 1 : Nat) : Int) := by rw [show (k : Int) - 1 = ((k - 1 : Nat) : Int) by omega]; exact IntWalk.i64_in _ (by omega)
  have v15 : (k : Int) - 1 = ((k - 1 : Nat) : Int) := by omega
  have Hm := Lib.hid hm
  have Hk := Lib.hid hk
  have Hx := Lib.hid hx
  have V15 := Lib.hid v15
  clear hm hk hx v15
  go_enter Try.func10, Try.ntmps10
  go_wp2_with fail
  refine (known25 _).mono ?_
  rintro e w0 ⟨rfl, hk0⟩
  go_wp2_with fail
  refine (own_new w _ hk0).mono ?_
  rintro e w1 ⟨p, rfl, h1⟩
  clear hk0
  unfold qp
  have H1 := Lib.hid h1
  clear h1
  go_wp2_with fail
  go_loopw [7] (fun iv wr => ∃ i : Nat, iv = .int .i64 i ∧ i ≤ k ∧ ∃ g, QOwn w wr p g (ones i)) (fun iv _ => k - (intOf iv).toNat)
  case atStart => exact ⟨0, rfl, Nat.zero_le _, none, H1.out⟩
  case round =>
    obtain ⟨i, rfl, hi, g, hq⟩ := hrel
    by_cases hlt : i < k
    · have hltI : (i : Int) < k := by omega
      have hi1 : IntKind.i64.wrap ((i : Int) + 1) = i + 1 := IntWalk.i64_in _ (by omega)
      have hi2 : IntKind.u16.wrap (i : Int) = i := by rw [IntKind.wrap_u16]; omega
      have hP := own_put (oneJ i) hq (by rw [ones_len]; omega)
      rw [ones_put (by omega), show (oneJ i).v = .agg #[.int .i64 1, .int .u16 i, .int .u16 0, .bool false] from rfl] at hP
      unfold qp at hP
      generalize putE (ones i) (oneJ i) = pe at hP
      have HP := Lib.hid hP
      have Hq := Lib.hid hq
      clear hP hq
      go_wp2_with fail
      refine HP.out.mono ?_
      rintro e w2 ⟨rfl, g2, h2⟩
      have H2 := Lib.hid h2
      clear h2
      go_wp2_with fail
      go_roundw
      case rel => exact ⟨i + 1, by simp, by omega, g2, H2.out⟩
      case measure => simp [intOf]; omega
    · obtain rfl : i = k := by omega
      have hP := own_put (flushJ x) hq (by rw [ones_len]; omega)
      rw [ones_flush hk30, show (flushJ x).v = .agg #[.int .i64 1, .int .u16 99, .int .u16 x, .bool true] from rfl] at hP
      unfold qp at hP
      generalize putE (ones i) (flushJ x) = pe at hP
      have hlen : (ones i ++ [flushJ x]).length ≤ 512 := by rw [List.length_append, ones_len]; simp; omega
      have hrdy := flush_ready (x := x) hk1
      obtain ⟨hpv, hpl⟩ := flush_pick (x := x) hk1 hk30
      have HP := Lib.hid hP
      have Hq := Lib.hid hq
      have Hrdy := Lib.hid hrdy
      have Hpv := Lib.hid hpv
      have Hpl := Lib.hid hpl
      have Hlen := Lib.hid hlen
      clear hP hq hrdy hpv hpl hlen
      go_wp2_with fail
      refine HP.out.mono ?_
      rintro e w2 ⟨rfl, g2, h2⟩
      have H2 := Lib.hid h2
      clear h2
      go_wp2_with fail
      refine (own_ready H2.out Hlen.out).mono ?_
      rintro e w3 ⟨v3', g3, rfl, hr3, hn3, h3, -⟩
      rw [Hrdy.out] at hr3
      obtain ⟨A, cap, rfl, hlc, hcm, -, h3r, -⟩ := hr3
      obtain ⟨b, off, rfl, -, hcs⟩ := h3r (by simp)
      obtain ⟨-, d1, -, -⟩ := hcs 0 (oneJ 0) rfl
      obtain ⟨-, -, -, f3⟩ := hcs 1 (flushJ x) rfl
      simp only [oneJ, flushJ] at d1 f3
      simp at d1
      clear hcs h3r hn3
      simp only [List.length_cons, List.length_nil, Nat.zero_add, Nat.reduceAdd]
      have hP2 := own_pick 1 h3 Hlen.out (by omega)
      rw [Hpv.out, Hpl.out] at hP2
      unfold qp at hP2
      rw [show (flushJ x).v = .agg #[.int .i64 1, .int .u16 99, .int .u16 x, .bool true] from rfl] at hP2
      have H3 := Lib.hid h3
      have HP2 := Lib.hid hP2
      clear h3 hP2
      go_wp2_with fail
      refine HP2.out.mono ?_
      rintro e w4 ⟨rfl, h4, -⟩
      have h5 := h4.same ((Keeps.refl nowhere w4).alloc (.cells #[.int .i64 1, .int .u16 99, .int .u16 x, .bool true] 45))
      have hbx := Blk.new w4 45 #[.int .i64 1, .int .u16 99, .int .u16 x, .bool true]
      have hC := own_cut 1 x h5 (by rw [ones_len]; omega)
      rw [ones_has hxk, cut_ones] at hC
      unfold qp at hC
      clear h4
      have H5 := Lib.hid h5
      have HC := Lib.hid hC
      have Hbx := Lib.hid hbx
      clear h5 hC hbx
      go_wp2_with fail
      refine HC.out.mono ?_
      rintro e w5 ⟨rfl, h6, -⟩
      have hC2 := own_cut 1 x h6 (by have := rest_le i x 0; omega)
      rw [rest_no.1, rest_no.2] at hC2
      unfold qp at hC2
      have H6 := Lib.hid h6
      have HC2 := Lib.hid hC2
      clear h6 hC2
      go_wp2_with fail
      refine HC2.out.mono ?_
      rintro e w6 ⟨rfl, h7, -⟩
      have H7 := Lib.hid h7
      clear h7
      go_wp2_with fail
      refine (own_len H7.out).mono ?_
      rintro e w7 ⟨rfl, rfl⟩
      rw [rest_len hxk]
      go_wp2_with fail
      clear HP Hq Hrdy Hpv Hpl Hlen H2 H3 HP2 H5 HC Hbx H6 HC2 H1
      go_loopw [12] (fun iv wr => ∃ y : Nat, iv = .int .i64 y ∧ y ≤ i ∧ QOwn w wr p g2 (rest i x y)) (fun iv _ => i - (intOf iv).toNat)
      case atStart => exact ⟨0, rfl, Nat.zero_le _, H7.out⟩
      case round =>
        clear H7
        obtain ⟨y, rfl, hy, hqy⟩ := hrel
        by_cases hyi : y < i
        · have hyI : (y : Int) < i := by omega
          have hy1 : IntKind.i64.wrap ((y : Int) + 1) = y + 1 := IntWalk.i64_in _ (by omega)
          have hy2 : IntKind.u16.wrap (y : Int) = y := by rw [IntKind.wrap_u16]; omega
          have hst := rest_step (x := x) hyi
          by_cases hyx : y = x
          · have hb : ((y : Int) == x) = true := by simp [hyx]
            rw [if_pos hyx] at hst
            rw [hst] at hqy
            have Hyx := Lib.hid hyx
            have Hqy := Lib.hid hqy
            have Hst := Lib.hid hst
            clear hyx hqy hst
            go_wp2_with fail
            go_roundw
            case rel => exact ⟨y + 1, by simp, by omega, Hqy.out⟩
            case measure => simp [intOf]; omega
          · have hb : ((y : Int) == x) = false := by simp; omega
            rw [if_neg hyx] at hst
            rw [hst] at hqy
            have hll : (oneJ y :: rest i x (y + 1)).length ≤ 512 := by have := rest_le i x (y + 1); simp; omega
            obtain ⟨hpv, hpl⟩ := pick_head_cut (oneJ y) (rest i x (y + 1))
            have hP := own_pick 0 hqy hll (by omega)
            rw [hpv, hpl, show (oneJ y).v = .agg #[.int .i64 1, .int .u16 y, .int .u16 0, .bool false] from rfl] at hP
            unfold qp at hP
            have Hyx := Lib.hid hyx
            have Hqy := Lib.hid hqy
            have Hst := Lib.hid hst
            have Hpv := Lib.hid hpv
            have Hpl := Lib.hid hpl
            have HP := Lib.hid hP
            have Hll := Lib.hid hll
            clear hyx hqy hst hpv hpl hP hll
            go_wp2_with fail
            refine HP.out.mono ?_
            rintro e w9 ⟨rfl, h9, -⟩
            have h10 := h9.same ((Keeps.refl nowhere w9).alloc (.cells #[.int .i64 1, .int .u16 y, .int .u16 0, .bool false] 45))
            clear h9
            have H10 := Lib.hid h10
            clear h10
            go_wp2_with fail
            go_roundw
            case rel => exact ⟨y + 1, by simp, by omega, H10.out⟩
            case measure => simp [intOf]; omega
        · obtain rfl : y = i := by omega
          rw [rest_end] at hqy
          have Hqy := Lib.hid hqy
          clear hqy
          go_wp2_with fail
          refine (own_len Hqy.out).mono ?_
          rintro e w9 ⟨rfl, rfl⟩
          go_wp2_with fail
          go_ret
          exact ⟨rfl, Hqy.out.k⟩
end Go.Proofs.Ytnccgmffgmfinaa
