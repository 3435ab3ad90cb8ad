/-
  Parts of the proof, joined in build order: Tx6, Tx7, Tx8, Us11, Us12, Us15, Us16, Us17, Us18.
-/
import Derived.Test.YtnlmdfbjmhcilaaDoorMu3
set_option linter.unusedVariables false
set_option linter.unusedSimpArgs false
/-
  loggiaref5.rune1. (wip/gen_tx6.py)
-/
namespace Go.Proofs.YtnlmdfbjmhcilaaDoor
open Go.RowKit Go.Proofs
attribute [local go_sem] strOf_size strOf_get strOf_toList

theorem and_192 (x : Nat) (hx : x < 256) : bits .and .u8 (x : Int) 192 = ((x / 64 * 64 : Nat) : Int) := by
  have h := bits_and_u8_nat x 192 hx (by omega)
  have h2 : x &&& 192 = x % 2 ^ 8 / 2 ^ 6 * 2 ^ 6 := nat_midmask 8 6 x (by decide)
  rw [h2] at h
  have e : x % 2 ^ 8 / 2 ^ 6 * 2 ^ 6 = x / 64 * 64 := by omega
  rw [e] at h
  exact h
theorem bits_or_i64_n (a b : Nat) (ha : a < 9223372036854775808) (hb : b < 9223372036854775808) :
    bits .or .i64 (a : Int) (b : Int) = ((a ||| b : Nat) : Int) := by
  have hx : a ||| b < 2 ^ 63 := Nat.or_lt_two_pow (by omega) (by omega)
  have h1 : (BitVec.ofInt 64 (a : Int)).toNat = a := by
    rw [BitVec.ofInt_natCast, BitVec.toNat_ofNat]; exact Nat.mod_eq_of_lt (by omega)
  have h2 : (BitVec.ofInt 64 (b : Int)).toNat = b := by
    rw [BitVec.ofInt_natCast, BitVec.toNat_ofNat]; exact Nat.mod_eq_of_lt (by omega)
  show IntKind.i64.wrap ((BitVec.ofInt 64 (a : Int) ||| BitVec.ofInt 64 (b : Int)).toNat : Int) = _
  rw [BitVec.toNat_or, h1, h2]
  exact IntWalk.i64_in _ (by omega)
theorem or_step64 (u c : Nat) (hu : u < 33554432) : bits .or .i64 ((u : Int) * 64) ((c : Int) % 64) = ((u * 64 + c % 64 : Nat) : Int) := by
  have e1 : ((u : Int) * 64) = ((u * 64 : Nat) : Int) := by omega
  have e2 : ((c : Int) % 64) = ((c % 64 : Nat) : Int) := by omega
  rw [e1, e2, bits_or_i64_n _ _ (by omega) (by omega)]
  congr 1
  have := Nat.shiftLeft_add_eq_or_of_lt (a := u) (b := c % 64) (i := 6) (by omega)
  rw [Nat.shiftLeft_eq] at this
  exact this.symm
def R1P (s : List UInt8) (w : World) : Ending → World → Prop := fun e w' => e = .returned (.int .i64 (rune1 s)) ∧ w' = w
theorem R1P.is {s : List UInt8} {w : World} {k : Nat} (h : rune1 s = k) : R1P s w (.returned (.int .i64 k)) w := ⟨by rw [h], rfl⟩
set_option maxHeartbeats 8000000 in
theorem rune1_ref (s : List UInt8) (hs : s ≠ []) (hl : s.length ≤ 1000000000) (w : World) : Calls Tryd.prog 92 #[.string (strOf s)] w (R1P s w) := by
  have hlen : 0 < s.length := List.length_pos_iff.2 hs
  have hlen0 : ((s.length : Int) == 0) = false := by simp; omega
  have hlenN : ¬ s.length = 0 := by omega
  have hb0 := byteN_lt s 0
  obtain ⟨c, hc⟩ : ∃ c, c = byteN s 0 := ⟨_, rfl⟩
  by_cases h1 : byteN s 0 < 128
  · have h1I : ((byteN s 0 : Nat) : Int) < 128 := by omega
    have hr : rune1 s = 1 := by
      unfold rune1 headS
      rw [if_pos h1]
      simp only
      rw [if_neg (by omega)]
      simp only [contV]
      rw [if_pos (by simp [okV]; omega)]
    have Hr := Lib.hid hr
    have Hc := Lib.hid hc
    clear hr hc
    go_enter Tryd.func92, Tryd.ntmps92
    go_wp2_with fail
    go_ret
    exact R1P.is (k := 1) Hr.out
  · have h1I : ¬ ((byteN s 0 : Nat) : Int) < 128 := by omega
    by_cases g1 : byteN s 0 / 32 = 6
    · have ge192 : (192 : Int) ≤ ((byteN s 0 : Nat) : Int) := by omega
      have lt224 : ((byteN s 0 : Nat) : Int) < 224 := by omega
      have ltd224 : decide (((byteN s 0 : Nat) : Int) < 224) = true := by simp; omega
      have hhd : headS (byteN s 0) = some (1, byteN s 0 % 32, 128) := by
        unfold headS
        rw [if_neg h1, if_pos g1]
      clear g1
      have Hhd := Lib.hid hhd
      have Hc := Lib.hid hc
      clear hhd hc
      by_cases hle : s.length ≤ 1
      · have hleI : (s.length : Int) < 2 := by omega
        have hr : rune1 s = 0 := by unfold rune1; rw [Hhd.out]; simp only; rw [if_pos hle]
        have Hr := Lib.hid hr
        clear hr
        go_enter Tryd.func92, Tryd.ntmps92
        go_wp2_with fail
        go_ret
        exact R1P.is (k := 0) Hr.out
      · have hleI : ¬ (s.length : Int) < 2 := by omega
        go_enter Tryd.func92, Tryd.ntmps92
        go_wp2_with fail
        go_loop [5, 7] (fun vv iv => ∃ (k u : Nat), iv = .int .i64 ((k : Int) + 1) ∧ vv = .int .i64 u ∧ k ≤ 1 ∧ contV s (byteN s 0 % 32) k = some u ∧ u < 128 * 64 ^ k) (fun _ iv => 1 + 1 - (intOf iv).toNat)
        case atStart => exact ⟨0, byteN s 0 % 32, by simp, by simp, Nat.zero_le _, rfl, by omega⟩
        case round =>
          obtain ⟨k, u, rfl, rfl, hk, hcv, hu⟩ := hrel
          by_cases hkn : k < 1
          · have hknI : (k : Int) + 1 < 2 := by omega
            have hix : k + 1 < s.length := by omega
            have hixI : (k : Int) + 1 < s.length := by omega
            have hix0 : (0 : Int) ≤ (k : Int) + 1 := by omega
            have hb := byteN_lt s (k + 1)
            have hk1 : IntKind.i64.wrap ((k : Int) + 1 + 1) = (k : Int) + 1 + 1 := IntWalk.i64_in _ (by omega)
            have hpow : 64 ^ k ≤ 64 ^ 2 := Nat.pow_le_pow_right (by omega) (by omega)
            have hu2 : u < 33554432 := by have : 128 * 64 ^ k ≤ 128 * 64 ^ 2 := Nat.mul_le_mul_left _ hpow; omega
            have hstep := or_step64 u (byteN s (k + 1)) hu2
            have hwu : IntKind.i64.wrap ((u : Int) * 64) = (u : Int) * 64 := IntWalk.i64_in _ (by omega)
            have hand := and_192 (byteN s (k + 1)) hb
            by_cases h2 : byteN s (k + 1) / 64 = 2
            · have hz : (((byteN s (k + 1) / 64 * 64 : Nat) : Int)) = 128 := by omega
              rw [hz] at hand
              have hc2 : contV s (byteN s 0 % 32) (k + 1) = some (u * 64 + byteN s (k + 1) % 64) := by rw [contV, hcv]; simp only; rw [if_pos h2]
              have Hcv := Lib.hid hcv
              have Hc2 := Lib.hid hc2
              have Hu := Lib.hid hu
              clear hcv hc2 hu
              go_wp2_with fail
              go_round
              case rel =>
                have h9 := Hu.out
                refine ⟨k + 1, u * 64 + byteN s (k + 1) % 64, by simp, by simp, by omega, Hc2.out, ?_⟩
                rw [Nat.pow_succ]
                omega
              case measure => simp [intOf]; omega
            · obtain ⟨m, hm⟩ : ∃ m, m = byteN s (k + 1) / 64 * 64 := ⟨_, rfl⟩
              have hmI : ((m : Int) != 128) = true := by simp; omega
              rw [← hm] at hand
              have hc2 : contV s (byteN s 0 % 32) (k + 1) = none := by rw [contV, hcv]; simp only; rw [if_neg h2]
              have hr : rune1 s = 0 := by
                unfold rune1
                rw [Hhd.out]
                simp only
                rw [if_neg hle, contV_none hc2 (by omega)]
              clear hstep hwu
              have Hr := Lib.hid hr
              have Hu := Lib.hid hu
              have Hcv := Lib.hid hcv
              have Hc2 := Lib.hid hc2
              have Hm := Lib.hid hm
              clear hr hu hcv hc2 hm
              go_wp2_with fail
              go_ret
              exact R1P.is (k := 0) Hr.out
          · obtain rfl : k = 1 := by omega
            have hru : rune1 s = if okV u 128 = true then 1 + 1 else 0 := by
              unfold rune1
              rw [Hhd.out]
              simp only
              rw [if_neg hle, hcv]
            clear hu hcv Hhd
            have Hru := Lib.hid hru
            clear hru
            by_cases a1 : u < 128
            · have a1I : (u : Int) < 128 := by omega
              have hr : rune1 s = 0 := by rw [Hru.out, if_neg (by simp [okV]; omega)]
              have Hr := Lib.hid hr
              clear hr
              go_wp2_with fail
              go_ret
              exact R1P.is (k := 0) Hr.out
            · have a1I : ¬ (u : Int) < 128 := by omega
              by_cases a2 : 1114111 < u
              · have a2I : (1114111 : Int) < u := by omega
                have hr : rune1 s = 0 := by rw [Hru.out, if_neg (by simp [okV]; omega)]
                have Hr := Lib.hid hr
                clear hr
                go_wp2_with fail
                go_ret
                exact R1P.is (k := 0) Hr.out
              · have a2I : ¬ (1114111 : Int) < u := by omega
                by_cases a3 : 55296 ≤ u
                · have a3I : (55296 : Int) ≤ u := by omega
                  by_cases a4 : u ≤ 57343
                  · have a4I : decide ((u : Int) ≤ 57343) = true := by simp; omega
                    have a4J : (u : Int) ≤ 57343 := by omega
                    have hr : rune1 s = 0 := by rw [Hru.out, if_neg (by simp [okV]; omega)]
                    have Hr := Lib.hid hr
                    clear hr
                    go_wp2_with fail
                    go_ret
                    exact R1P.is (k := 0) Hr.out
                  · have a4I : decide ((u : Int) ≤ 57343) = false := by simp; omega
                    have a4J : ¬ (u : Int) ≤ 57343 := by omega
                    have hr : rune1 s = 1 + 1 := by rw [Hru.out, if_pos (by simp [okV]; omega)]
                    have Hr := Lib.hid hr
                    clear hr
                    go_wp2_with fail
                    go_ret
                    exact R1P.is (k := 2) Hr.out
                · have a3I : ¬ (55296 : Int) ≤ u := by omega
                  have hr : rune1 s = 1 + 1 := by rw [Hru.out, if_pos (by simp [okV]; omega)]
                  have Hr := Lib.hid hr
                  clear hr
                  go_wp2_with fail
                  go_ret
                  exact R1P.is (k := 2) Hr.out
    ·
      by_cases g2 : byteN s 0 / 16 = 14
      · have ge192 : (192 : Int) ≤ ((byteN s 0 : Nat) : Int) := by omega
        have lt224 : ¬ ((byteN s 0 : Nat) : Int) < 224 := by omega
        have ltd224 : decide (((byteN s 0 : Nat) : Int) < 224) = false := by simp; omega
        have ge224 : (224 : Int) ≤ ((byteN s 0 : Nat) : Int) := by omega
        have lt240 : ((byteN s 0 : Nat) : Int) < 240 := by omega
        have ltd240 : decide (((byteN s 0 : Nat) : Int) < 240) = true := by simp; omega
        have hhd : headS (byteN s 0) = some (2, byteN s 0 % 16, 2048) := by
          unfold headS
          rw [if_neg h1, if_neg g1, if_pos g2]
        clear g1
        clear g2
        have Hhd := Lib.hid hhd
        have Hc := Lib.hid hc
        clear hhd hc
        by_cases hle : s.length ≤ 2
        · have hleI : (s.length : Int) < 3 := by omega
          have hr : rune1 s = 0 := by unfold rune1; rw [Hhd.out]; simp only; rw [if_pos hle]
          have Hr := Lib.hid hr
          clear hr
          go_enter Tryd.func92, Tryd.ntmps92
          go_wp2_with fail
          go_ret
          exact R1P.is (k := 0) Hr.out
        · have hleI : ¬ (s.length : Int) < 3 := by omega
          go_enter Tryd.func92, Tryd.ntmps92
          go_wp2_with fail
          go_loop [5, 7] (fun vv iv => ∃ (k u : Nat), iv = .int .i64 ((k : Int) + 1) ∧ vv = .int .i64 u ∧ k ≤ 2 ∧ contV s (byteN s 0 % 16) k = some u ∧ u < 128 * 64 ^ k) (fun _ iv => 2 + 1 - (intOf iv).toNat)
          case atStart => exact ⟨0, byteN s 0 % 16, by simp, by simp, Nat.zero_le _, rfl, by omega⟩
          case round =>
            obtain ⟨k, u, rfl, rfl, hk, hcv, hu⟩ := hrel
            by_cases hkn : k < 2
            · have hknI : (k : Int) + 1 < 3 := by omega
              have hix : k + 1 < s.length := by omega
              have hixI : (k : Int) + 1 < s.length := by omega
              have hix0 : (0 : Int) ≤ (k : Int) + 1 := by omega
              have hb := byteN_lt s (k + 1)
              have hk1 : IntKind.i64.wrap ((k : Int) + 1 + 1) = (k : Int) + 1 + 1 := IntWalk.i64_in _ (by omega)
              have hpow : 64 ^ k ≤ 64 ^ 2 := Nat.pow_le_pow_right (by omega) (by omega)
              have hu2 : u < 33554432 := by have : 128 * 64 ^ k ≤ 128 * 64 ^ 2 := Nat.mul_le_mul_left _ hpow; omega
              have hstep := or_step64 u (byteN s (k + 1)) hu2
              have hwu : IntKind.i64.wrap ((u : Int) * 64) = (u : Int) * 64 := IntWalk.i64_in _ (by omega)
              have hand := and_192 (byteN s (k + 1)) hb
              by_cases h2 : byteN s (k + 1) / 64 = 2
              · have hz : (((byteN s (k + 1) / 64 * 64 : Nat) : Int)) = 128 := by omega
                rw [hz] at hand
                have hc2 : contV s (byteN s 0 % 16) (k + 1) = some (u * 64 + byteN s (k + 1) % 64) := by rw [contV, hcv]; simp only; rw [if_pos h2]
                have Hcv := Lib.hid hcv
                have Hc2 := Lib.hid hc2
                have Hu := Lib.hid hu
                clear hcv hc2 hu
                go_wp2_with fail
                go_round
                case rel =>
                  have h9 := Hu.out
                  refine ⟨k + 1, u * 64 + byteN s (k + 1) % 64, by simp, by simp, by omega, Hc2.out, ?_⟩
                  rw [Nat.pow_succ]
                  omega
                case measure => simp [intOf]; omega
              · obtain ⟨m, hm⟩ : ∃ m, m = byteN s (k + 1) / 64 * 64 := ⟨_, rfl⟩
                have hmI : ((m : Int) != 128) = true := by simp; omega
                rw [← hm] at hand
                have hc2 : contV s (byteN s 0 % 16) (k + 1) = none := by rw [contV, hcv]; simp only; rw [if_neg h2]
                have hr : rune1 s = 0 := by
                  unfold rune1
                  rw [Hhd.out]
                  simp only
                  rw [if_neg hle, contV_none hc2 (by omega)]
                clear hstep hwu
                have Hr := Lib.hid hr
                have Hu := Lib.hid hu
                have Hcv := Lib.hid hcv
                have Hc2 := Lib.hid hc2
                have Hm := Lib.hid hm
                clear hr hu hcv hc2 hm
                go_wp2_with fail
                go_ret
                exact R1P.is (k := 0) Hr.out
            · obtain rfl : k = 2 := by omega
              have hru : rune1 s = if okV u 2048 = true then 2 + 1 else 0 := by
                unfold rune1
                rw [Hhd.out]
                simp only
                rw [if_neg hle, hcv]
              clear hu hcv Hhd
              have Hru := Lib.hid hru
              clear hru
              by_cases a1 : u < 2048
              · have a1I : (u : Int) < 2048 := by omega
                have hr : rune1 s = 0 := by rw [Hru.out, if_neg (by simp [okV]; omega)]
                have Hr := Lib.hid hr
                clear hr
                go_wp2_with fail
                go_ret
                exact R1P.is (k := 0) Hr.out
              · have a1I : ¬ (u : Int) < 2048 := by omega
                by_cases a2 : 1114111 < u
                · have a2I : (1114111 : Int) < u := by omega
                  have hr : rune1 s = 0 := by rw [Hru.out, if_neg (by simp [okV]; omega)]
                  have Hr := Lib.hid hr
                  clear hr
                  go_wp2_with fail
                  go_ret
                  exact R1P.is (k := 0) Hr.out
                · have a2I : ¬ (1114111 : Int) < u := by omega
                  by_cases a3 : 55296 ≤ u
                  · have a3I : (55296 : Int) ≤ u := by omega
                    by_cases a4 : u ≤ 57343
                    · have a4I : decide ((u : Int) ≤ 57343) = true := by simp; omega
                      have a4J : (u : Int) ≤ 57343 := by omega
                      have hr : rune1 s = 0 := by rw [Hru.out, if_neg (by simp [okV]; omega)]
                      have Hr := Lib.hid hr
                      clear hr
                      go_wp2_with fail
                      go_ret
                      exact R1P.is (k := 0) Hr.out
                    · have a4I : decide ((u : Int) ≤ 57343) = false := by simp; omega
                      have a4J : ¬ (u : Int) ≤ 57343 := by omega
                      have hr : rune1 s = 2 + 1 := by rw [Hru.out, if_pos (by simp [okV]; omega)]
                      have Hr := Lib.hid hr
                      clear hr
                      go_wp2_with fail
                      go_ret
                      exact R1P.is (k := 3) Hr.out
                  · have a3I : ¬ (55296 : Int) ≤ u := by omega
                    have hr : rune1 s = 2 + 1 := by rw [Hru.out, if_pos (by simp [okV]; omega)]
                    have Hr := Lib.hid hr
                    clear hr
                    go_wp2_with fail
                    go_ret
                    exact R1P.is (k := 3) Hr.out
      ·
        by_cases g3 : byteN s 0 / 8 = 30
        · have ge192 : (192 : Int) ≤ ((byteN s 0 : Nat) : Int) := by omega
          have lt224 : ¬ ((byteN s 0 : Nat) : Int) < 224 := by omega
          have ltd224 : decide (((byteN s 0 : Nat) : Int) < 224) = false := by simp; omega
          have ge224 : (224 : Int) ≤ ((byteN s 0 : Nat) : Int) := by omega
          have lt240 : ¬ ((byteN s 0 : Nat) : Int) < 240 := by omega
          have ltd240 : decide (((byteN s 0 : Nat) : Int) < 240) = false := by simp; omega
          have ge240 : (240 : Int) ≤ ((byteN s 0 : Nat) : Int) := by omega
          have lt248 : ((byteN s 0 : Nat) : Int) < 248 := by omega
          have ltd248 : decide (((byteN s 0 : Nat) : Int) < 248) = true := by simp; omega
          have hhd : headS (byteN s 0) = some (3, byteN s 0 % 8, 65536) := by
            unfold headS
            rw [if_neg h1, if_neg g1, if_neg g2, if_pos g3]
          clear g1
          clear g2
          clear g3
          have Hhd := Lib.hid hhd
          have Hc := Lib.hid hc
          clear hhd hc
          by_cases hle : s.length ≤ 3
          · have hleI : (s.length : Int) < 4 := by omega
            have hr : rune1 s = 0 := by unfold rune1; rw [Hhd.out]; simp only; rw [if_pos hle]
            have Hr := Lib.hid hr
            clear hr
            go_enter Tryd.func92, Tryd.ntmps92
            go_wp2_with fail
            go_ret
            exact R1P.is (k := 0) Hr.out
          · have hleI : ¬ (s.length : Int) < 4 := by omega
            go_enter Tryd.func92, Tryd.ntmps92
            go_wp2_with fail
            go_loop [5, 7] (fun vv iv => ∃ (k u : Nat), iv = .int .i64 ((k : Int) + 1) ∧ vv = .int .i64 u ∧ k ≤ 3 ∧ contV s (byteN s 0 % 8) k = some u ∧ u < 128 * 64 ^ k) (fun _ iv => 3 + 1 - (intOf iv).toNat)
            case atStart => exact ⟨0, byteN s 0 % 8, by simp, by simp, Nat.zero_le _, rfl, by omega⟩
            case round =>
              obtain ⟨k, u, rfl, rfl, hk, hcv, hu⟩ := hrel
              by_cases hkn : k < 3
              · have hknI : (k : Int) + 1 < 4 := by omega
                have hix : k + 1 < s.length := by omega
                have hixI : (k : Int) + 1 < s.length := by omega
                have hix0 : (0 : Int) ≤ (k : Int) + 1 := by omega
                have hb := byteN_lt s (k + 1)
                have hk1 : IntKind.i64.wrap ((k : Int) + 1 + 1) = (k : Int) + 1 + 1 := IntWalk.i64_in _ (by omega)
                have hpow : 64 ^ k ≤ 64 ^ 2 := Nat.pow_le_pow_right (by omega) (by omega)
                have hu2 : u < 33554432 := by have : 128 * 64 ^ k ≤ 128 * 64 ^ 2 := Nat.mul_le_mul_left _ hpow; omega
                have hstep := or_step64 u (byteN s (k + 1)) hu2
                have hwu : IntKind.i64.wrap ((u : Int) * 64) = (u : Int) * 64 := IntWalk.i64_in _ (by omega)
                have hand := and_192 (byteN s (k + 1)) hb
                by_cases h2 : byteN s (k + 1) / 64 = 2
                · have hz : (((byteN s (k + 1) / 64 * 64 : Nat) : Int)) = 128 := by omega
                  rw [hz] at hand
                  have hc2 : contV s (byteN s 0 % 8) (k + 1) = some (u * 64 + byteN s (k + 1) % 64) := by rw [contV, hcv]; simp only; rw [if_pos h2]
                  have Hcv := Lib.hid hcv
                  have Hc2 := Lib.hid hc2
                  have Hu := Lib.hid hu
                  clear hcv hc2 hu
                  go_wp2_with fail
                  go_round
                  case rel =>
                    have h9 := Hu.out
                    refine ⟨k + 1, u * 64 + byteN s (k + 1) % 64, by simp, by simp, by omega, Hc2.out, ?_⟩
                    rw [Nat.pow_succ]
                    omega
                  case measure => simp [intOf]; omega
                · obtain ⟨m, hm⟩ : ∃ m, m = byteN s (k + 1) / 64 * 64 := ⟨_, rfl⟩
                  have hmI : ((m : Int) != 128) = true := by simp; omega
                  rw [← hm] at hand
                  have hc2 : contV s (byteN s 0 % 8) (k + 1) = none := by rw [contV, hcv]; simp only; rw [if_neg h2]
                  have hr : rune1 s = 0 := by
                    unfold rune1
                    rw [Hhd.out]
                    simp only
                    rw [if_neg hle, contV_none hc2 (by omega)]
                  clear hstep hwu
                  have Hr := Lib.hid hr
                  have Hu := Lib.hid hu
                  have Hcv := Lib.hid hcv
                  have Hc2 := Lib.hid hc2
                  have Hm := Lib.hid hm
                  clear hr hu hcv hc2 hm
                  go_wp2_with fail
                  go_ret
                  exact R1P.is (k := 0) Hr.out
              · obtain rfl : k = 3 := by omega
                have hru : rune1 s = if okV u 65536 = true then 3 + 1 else 0 := by
                  unfold rune1
                  rw [Hhd.out]
                  simp only
                  rw [if_neg hle, hcv]
                clear hu hcv Hhd
                have Hru := Lib.hid hru
                clear hru
                by_cases a1 : u < 65536
                · have a1I : (u : Int) < 65536 := by omega
                  have hr : rune1 s = 0 := by rw [Hru.out, if_neg (by simp [okV]; omega)]
                  have Hr := Lib.hid hr
                  clear hr
                  go_wp2_with fail
                  go_ret
                  exact R1P.is (k := 0) Hr.out
                · have a1I : ¬ (u : Int) < 65536 := by omega
                  by_cases a2 : 1114111 < u
                  · have a2I : (1114111 : Int) < u := by omega
                    have hr : rune1 s = 0 := by rw [Hru.out, if_neg (by simp [okV]; omega)]
                    have Hr := Lib.hid hr
                    clear hr
                    go_wp2_with fail
                    go_ret
                    exact R1P.is (k := 0) Hr.out
                  · have a2I : ¬ (1114111 : Int) < u := by omega
                    by_cases a3 : 55296 ≤ u
                    · have a3I : (55296 : Int) ≤ u := by omega
                      by_cases a4 : u ≤ 57343
                      · have a4I : decide ((u : Int) ≤ 57343) = true := by simp; omega
                        have a4J : (u : Int) ≤ 57343 := by omega
                        have hr : rune1 s = 0 := by rw [Hru.out, if_neg (by simp [okV]; omega)]
                        have Hr := Lib.hid hr
                        clear hr
                        go_wp2_with fail
                        go_ret
                        exact R1P.is (k := 0) Hr.out
                      · have a4I : decide ((u : Int) ≤ 57343) = false := by simp; omega
                        have a4J : ¬ (u : Int) ≤ 57343 := by omega
                        have hr : rune1 s = 3 + 1 := by rw [Hru.out, if_pos (by simp [okV]; omega)]
                        have Hr := Lib.hid hr
                        clear hr
                        go_wp2_with fail
                        go_ret
                        exact R1P.is (k := 4) Hr.out
                    · have a3I : ¬ (55296 : Int) ≤ u := by omega
                      have hr : rune1 s = 3 + 1 := by rw [Hru.out, if_pos (by simp [okV]; omega)]
                      have Hr := Lib.hid hr
                      clear hr
                      go_wp2_with fail
                      go_ret
                      exact R1P.is (k := 4) Hr.out
        ·
          have hhd : headS (byteN s 0) = none := by
            unfold headS
            rw [if_neg h1, if_neg g1, if_neg g2, if_neg g3]
          have hr : rune1 s = 0 := by unfold rune1; rw [hhd]
          by_cases g4 : byteN s 0 < 192
          · have ge192 : ¬ (192 : Int) ≤ ((byteN s 0 : Nat) : Int) := by omega
            have ged192 : decide ((192 : Int) ≤ ((byteN s 0 : Nat) : Int)) = false := by simp; omega
            have ge224 : ¬ (224 : Int) ≤ ((byteN s 0 : Nat) : Int) := by omega
            have ged224 : decide ((224 : Int) ≤ ((byteN s 0 : Nat) : Int)) = false := by simp; omega
            have ge240 : ¬ (240 : Int) ≤ ((byteN s 0 : Nat) : Int) := by omega
            have ged240 : decide ((240 : Int) ≤ ((byteN s 0 : Nat) : Int)) = false := by simp; omega
            clear g1 g2 g3 g4
            have Hr := Lib.hid hr
            have Hhd := Lib.hid hhd
            have Hc := Lib.hid hc
            clear hr hhd hc
            go_enter Tryd.func92, Tryd.ntmps92
            go_wp2_with fail
            go_ret
            exact R1P.is (k := 0) Hr.out
          · have ge192 : (192 : Int) ≤ ((byteN s 0 : Nat) : Int) := by omega
            have lt224 : ¬ ((byteN s 0 : Nat) : Int) < 224 := by omega
            have ltd224 : decide (((byteN s 0 : Nat) : Int) < 224) = false := by simp; omega
            have ge224 : (224 : Int) ≤ ((byteN s 0 : Nat) : Int) := by omega
            have lt240 : ¬ ((byteN s 0 : Nat) : Int) < 240 := by omega
            have ltd240 : decide (((byteN s 0 : Nat) : Int) < 240) = false := by simp; omega
            have ge240 : (240 : Int) ≤ ((byteN s 0 : Nat) : Int) := by omega
            have lt248 : ¬ ((byteN s 0 : Nat) : Int) < 248 := by omega
            have ltd248 : decide (((byteN s 0 : Nat) : Int) < 248) = false := by simp; omega
            clear g1 g2 g3 g4
            have Hr := Lib.hid hr
            have Hhd := Lib.hid hhd
            have Hc := Lib.hid hc
            clear hr hhd hc
            go_enter Tryd.func92, Tryd.ntmps92
            go_wp2_with fail
            go_ret
            exact R1P.is (k := 0) Hr.out
end Go.Proofs.YtnlmdfbjmhcilaaDoor
/-
  loggiaref5.Runes, Valid, Name.
-/
namespace Go.Proofs.YtnlmdfbjmhcilaaDoor
open Go.RowKit Go.Proofs
attribute [local go_sem] strOf_size strOf_get strOf_toList

def RRunesP (s : List UInt8) (w : World) : Ending → World → Prop := fun e w' => e = .returned (.tuple #[.int .i64 ((runesS s).getD 0), .bool (runesS s).isSome]) ∧ w' = w
theorem RRunesP.none {s : List UInt8} {w : World} (h : runesS s = none) : RRunesP s w (.returned (.tuple #[.int .i64 0, .bool false])) w := ⟨by rw [h]; rfl, rfl⟩
theorem RRunesP.some {s : List UInt8} {w : World} {k : Nat} (h : runesS s = some k) : RRunesP s w (.returned (.tuple #[.int .i64 k, .bool true])) w := ⟨by rw [h]; rfl, rfl⟩
set_option maxHeartbeats 4000000 in
theorem runes_ref (s : List UInt8) (hl : s.length ≤ 1000000000) (w : World) : Calls Tryd.prog 65 #[.string (strOf s)] w (RRunesP s w) := by
  go_enter Tryd.func65, Tryd.ntmps65
  go_wp2_with fail
  go_loop [0, 4] (fun sv nv => ∃ (r : List UInt8) (k : Nat), sv = .string (strOf r) ∧ nv = .int .i64 k ∧ runesS s = (runesS r).map (· + k) ∧ k + r.length ≤ s.length) (fun sv _ => (match sv with | .string b => b.size | _ => 0))
  case atStart => exact ⟨s, 0, rfl, rfl, by simp, by omega⟩
  case round =>
    obtain ⟨r, k, rfl, rfl, hrs, hkl⟩ := hrel
    by_cases hr : r = []
    · subst hr
      have hfin : runesS s = some k := by rw [hrs, runesS_nil]; simp
      have h0 : ¬ (0 : Int) < (([] : List UInt8).length : Int) := by simp
      clear hrs
      have Hfin := Lib.hid hfin
      clear hfin
      go_wp2_with fail
      go_ret2
      exact RRunesP.some Hfin.out
    · have hrl : 0 < r.length := List.length_pos_iff.2 hr
      have hrlI : (0 : Int) < (r.length : Int) := by omega
      have ho := rune1_ref r hr (by omega) w
      have hcons := runesS_cons hr
      obtain ⟨j, hj⟩ : ∃ j, j = rune1 r := ⟨_, rfl⟩
      have ho2 := ho.mono (R' := fun e w' => e = .returned (.int .i64 j) ∧ w' = w) (fun e w' h => ⟨by rw [h.1, hj], h.2⟩)
      rw [← hj] at hcons
      clear ho
      by_cases h0 : j = 0
      · rw [if_pos h0] at hcons
        have hfin : runesS s = none := by rw [hrs, hcons]; rfl
        have h0I : ((j : Int) == 0) = true := by simp [h0]
        clear hrs hcons
        have Ho2 := Lib.hid ho2
        have Hfin := Lib.hid hfin
        have Hj := Lib.hid hj
        clear ho2 hfin hj
        go_wp2_with fail
        refine Ho2.out.mono ?_
        rintro e w' ⟨rfl, rfl⟩
        go_wp2_with fail
        go_ret2
        exact RRunesP.none Hfin.out
      · rw [if_neg h0] at hcons
        have hjl : j ≤ r.length := by rw [hj]; exact rune1_le r
        have hd := strOf_drop r j
        have h0I : ((j : Int) == 0) = false := by simp [h0]
        have hjI : (j : Int) ≤ r.length := by omega
        have hj0 : (0 : Int) ≤ j := by omega
        have hk1 : IntKind.i64.wrap ((k : Int) + 1) = (k : Int) + 1 := IntWalk.i64_in _ (by omega)
        have hrs2 : runesS s = (runesS (r.drop j)).map (· + (k + 1)) := by
          rw [hrs, hcons, Option.map_map]
          congr 1
          funext x
          simp
          omega
        clear hrs hcons
        have Ho2 := Lib.hid ho2
        have Hrs2 := Lib.hid hrs2
        have Hj := Lib.hid hj
        clear ho2 hrs2 hj
        go_wp2_with fail
        refine Ho2.out.mono ?_
        rintro e w' ⟨rfl, rfl⟩
        go_wp2_with fail
        go_round
        case rel => exact ⟨r.drop j, k + 1, by simp, by simp, Hrs2.out, by simp; omega⟩
        case measure => simp [strOf_size]; omega
set_option maxHeartbeats 4000000 in
theorem valid_ref (s : List UInt8) (hl : s.length ≤ 1000000000) (w : World) : Calls Tryd.prog 37 #[.string (strOf s)] w fun e w' => e = .returned (.bool (validS s)) ∧ w' = w := by
  have hr := runes_ref s hl w
  unfold RRunesP at hr
  obtain ⟨m, hm⟩ : ∃ n : Nat, n = (runesS s).getD 0 := ⟨_, rfl⟩
  obtain ⟨o, ho⟩ : ∃ o, o = (runesS s).isSome := ⟨_, rfl⟩
  obtain ⟨v, hv⟩ : ∃ v, v = validS s := ⟨_, rfl⟩
  rw [← hm, ← ho] at hr
  rw [← hv]
  have Hr := Lib.hid hr
  have Hm := Lib.hid hm
  have Ho := Lib.hid ho
  have Hv := Lib.hid hv
  clear hr hm ho hv
  go_enter Tryd.func37, Tryd.ntmps37
  go_wp2_with fail
  go_loop [3] (fun iv => ∃ i : Nat, iv = .int .i64 i ∧ i ≤ s.length ∧ ∀ j x, j < i → s[j]? = some x → x ≠ 0) (fun iv => s.length - (intOf iv).toNat)
  case atStart => exact ⟨0, rfl, Nat.zero_le _, fun j x h => by omega⟩
  case round =>
    obtain ⟨i, rfl, hi, hok⟩ := hrel
    by_cases hlt : i < s.length
    · have hltI : (i : Int) < s.length := by omega
      have hi0 : (0 : Int) ≤ (i : Int) := by omega
      have hi1 : IntKind.i64.wrap ((i : Int) + 1) = i + 1 := IntWalk.i64_in _ (by omega)
      have hx : s[i]? = some s[i] := List.getElem?_eq_getElem hlt
      have hbn : byteN s i = (s[i]).toNat := by unfold byteN; rw [hx]; rfl
      by_cases hz : byteN s i = 0
      · have hzI : (((byteN s i : Nat) : Int) == 0) = true := by simp [hz]
        have hs0 : s[i] = 0 := UInt8.toNat_inj.1 (by rw [← hbn, hz]; rfl)
        have hvf : v = false := by
          rw [Hv.out]
          unfold validS
          have : s.contains 0 = true := by rw [List.contains_iff_mem]; rw [← hs0]; exact List.getElem_mem hlt
          rw [this]; simp
        clear hok
        subst hvf
        have Hbn := Lib.hid hbn
        have Hx := Lib.hid hx
        have Hs0 := Lib.hid hs0
        have Hz := Lib.hid hz
        clear hbn hx hs0 hz
        go_wp2_with fail
        go_ret
        exact ⟨rfl, rfl⟩
      · have hzI : (((byteN s i : Nat) : Int) == 0) = false := by simp [hz]
        have hok2 : ∀ j y, j < i + 1 → s[j]? = some y → y ≠ 0 := fun j y hj hy => by
          by_cases e : j < i
          · exact hok j y e hy
          · have : j = i := by omega
            subst this
            rw [hx] at hy
            have hy := Option.some.inj hy
            intro h0
            rw [h0] at hy
            exact hz (by rw [hbn, hy]; rfl)
        clear hok
        have Hbn := Lib.hid hbn
        have Hx := Lib.hid hx
        have Hok2 := Lib.hid hok2
        have Hz := Lib.hid hz
        clear hbn hx hok2 hz
        go_wp2_with fail
        go_round
        case rel => exact ⟨i + 1, by simp, by omega, Hok2.out⟩
        case measure => simp [intOf]; omega
    · obtain rfl : i = s.length := by omega
      have hiI : ¬ ((s.length : Nat) : Int) < s.length := by omega
      have hc0 : s.contains 0 = false := by
        rw [Bool.eq_false_iff]
        intro h
        rw [List.contains_iff_mem] at h
        obtain ⟨j, hj, e⟩ := List.getElem_of_mem h
        exact hok j 0 hj (by rw [List.getElem?_eq_getElem hj, e]) rfl
      have hvo : v = (o && decide (s.length ≤ 64)) := by
        rw [Hv.out, Ho.out]; unfold validS; rw [hc0]; simp
      clear hok
      cases o with
      | false =>
        have hvf : v = false := by rw [hvo]; rfl
        subst hvf
        clear hvo
        have Hc0 := Lib.hid hc0
        clear hc0
        go_wp2_with fail
        refine Hr.out.mono ?_
        rintro e w' ⟨rfl, rfl⟩
        go_wp2_with fail
        go_ret
        exact ⟨rfl, rfl⟩
      | true =>
        have hvf : v = decide ((s.length : Int) ≤ 64) := by rw [hvo, Bool.true_and, decide_eq_decide]; omega
        subst hvf
        clear hvo
        have Hc0 := Lib.hid hc0
        clear hc0
        go_wp2_with fail
        refine Hr.out.mono ?_
        rintro e w' ⟨rfl, rfl⟩
        go_wp2_with fail
        go_ret
        exact ⟨rfl, rfl⟩
end Go.Proofs.YtnlmdfbjmhcilaaDoor
/-
  loggiaref5.Name.
-/
namespace Go.Proofs.YtnlmdfbjmhcilaaDoor
open Go.RowKit Go.Proofs
attribute [local go_sem] strOf_size strOf_get strOf_toList

def RNameP (s : List UInt8) (w : World) : Ending → World → Prop := fun e w' => e = .returned (.int .i64 (nameE s)) ∧ w' = w
theorem RNameP.is {s : List UInt8} {w : World} {k : Int} (h : nameE s = k) : RNameP s w (.returned (.int .i64 k)) w := ⟨by rw [h], rfl⟩
set_option maxRecDepth 20000 in
set_option maxHeartbeats 4000000 in
theorem name_ref (s : List UInt8) (hl : s.length ≤ 1000000000) (w : World) : Calls Tryd.prog 17 #[.string (strOf s)] w (RNameP s w) := by
  have hv := valid_ref s hl w
  obtain ⟨b, hb⟩ : ∃ b, b = validS s := ⟨_, rfl⟩
  rw [← hb] at hv
  cases b with
  | false =>
    have hn : nameE s = 6 := by unfold nameE nameBad; rw [← hb]; rfl
    clear hb
    have Hv := Lib.hid hv
    have Hn := Lib.hid hn
    clear hv hn
    go_enter Tryd.func17, Tryd.ntmps17
    go_wp2_with fail
    refine Hv.out.mono ?_
    rintro e w1 ⟨rfl, rfl⟩
    go_wp2_with fail
    go_ret
    exact RNameP.is Hn.out
  | true =>
    by_cases h0 : s = []
    · have x0 : s.isEmpty = true := by rw [h0]; rfl
      have y0 : (s == []) = true := by rw [h0]; rfl
      have hnb : nameBad s = true := by unfold nameBad; rw [y0]; simp
      have hn : nameE s = 6 := by unfold nameE; rw [if_pos hnb]
      clear h0 hnb y0 hb
      have Hv := Lib.hid hv
      have Hn := Lib.hid hn
      clear hv hn
      go_enter Tryd.func17, Tryd.ntmps17
      go_wp2_with fail
      refine Hv.out.mono ?_
      rintro e w1 ⟨rfl, rfl⟩
      go_wp2_with fail
      go_ret
      exact RNameP.is Hn.out
    · have x0 : s.isEmpty = false := by simp [h0]
      by_cases h1 : s = [46]
      · have x1 : (s == [46]) = true := by rw [h1]; rfl
        have hnb : nameBad s = true := by unfold nameBad; rw [x1]; simp
        have hn : nameE s = 6 := by unfold nameE; rw [if_pos hnb]
        clear h1 hnb hb
        have Hv := Lib.hid hv
        have Hn := Lib.hid hn
        clear hv hn
        go_enter Tryd.func17, Tryd.ntmps17
        go_wp2_with fail
        refine Hv.out.mono ?_
        rintro e w1 ⟨rfl, rfl⟩
        go_wp2_with fail
        go_ret
        exact RNameP.is Hn.out
      · have x1 : (s == [46]) = false := by simp [h1]
        by_cases h2 : s = [46, 46]
        · have x2 : (s == [46, 46]) = true := by rw [h2]; rfl
          have hnb : nameBad s = true := by unfold nameBad; rw [x2]; simp
          have hn : nameE s = 6 := by unfold nameE; rw [if_pos hnb]
          clear h2 hnb hb
          have Hv := Lib.hid hv
          have Hn := Lib.hid hn
          clear hv hn
          go_enter Tryd.func17, Tryd.ntmps17
          go_wp2_with fail
          refine Hv.out.mono ?_
          rintro e w1 ⟨rfl, rfl⟩
          go_wp2_with fail
          go_ret
          exact RNameP.is Hn.out
        · have x2 : (s == [46, 46]) = false := by simp [h2]
          have hnb : nameBad s = false := by unfold nameBad; rw [← hb]; simp [h0, h1, h2]
          have Hv := Lib.hid hv
          have Hb := Lib.hid hb
          have Hnb := Lib.hid hnb
          clear hv hb hnb
          go_enter Tryd.func17, Tryd.ntmps17
          go_wp2_with fail
          refine Hv.out.mono ?_
          rintro e w1 ⟨rfl, rfl⟩
          go_wp2_with fail
          go_loop [3] (fun iv => ∃ i : Nat, iv = .int .i64 i ∧ i ≤ s.length ∧ ∀ j x, j < i → s[j]? = some x → badC x = false) (fun iv => s.length - (intOf iv).toNat)
          case atStart => exact ⟨0, rfl, Nat.zero_le _, fun j x h => by omega⟩
          case round =>
            obtain ⟨i, rfl, hi, hok⟩ := hrel
            by_cases hlt : i < s.length
            · have hltI : (i : Int) < s.length := by omega
              have hi0 : (0 : Int) ≤ (i : Int) := by omega
              have hi1 : IntKind.i64.wrap ((i : Int) + 1) = i + 1 := IntWalk.i64_in _ (by omega)
              have hx : s[i]? = some s[i] := List.getElem?_eq_getElem hlt
              obtain ⟨x, hxx⟩ : ∃ x, x = s[i] := ⟨_, rfl⟩
              rw [← hxx] at hx
              have hbn : byteN s i = x.toNat := by unfold byteN; rw [hx]; rfl
              have hbad : badC x = true → nameE s = 6 := fun hbx => by
                unfold nameE
                rw [Hnb.out, if_neg (by simp), if_pos]
                rw [List.any_eq_true]
                exact ⟨x, List.mem_of_getElem? hx, hbx⟩
              have hok2 : badC x = false → ∀ j y, j < i + 1 → s[j]? = some y → badC y = false := fun hbx j y hj hy => by
                by_cases e : j < i
                · exact hok j y e hy
                · have : j = i := by omega
                  subst this
                  rw [hx] at hy
                  have hy := Option.some.inj hy
                  subst hy
                  exact hbx
              clear hok
              by_cases c1 : byteN s i < 32
              · have c1I : ((byteN s i : Nat) : Int) < 32 := by omega
                have hn := hbad (by unfold badC; simp; left; omega)
                clear hok2 hbad
                have Hn := Lib.hid hn
                have Hx := Lib.hid hx
                have Hbn := Lib.hid hbn
                have Hxx := Lib.hid hxx
                clear hn hx hbn hxx
                go_wp2_with fail
                go_ret
                exact RNameP.is Hn.out
              · have c1I : ¬ ((byteN s i : Nat) : Int) < 32 := by omega
                by_cases c2 : byteN s i = 47
                · have c2I : (((byteN s i : Nat) : Int) == 47) = true := by simp; omega
                  have hn := hbad (by unfold badC; simp; right; omega)
                  clear hok2 hbad
                  have Hn := Lib.hid hn
                  have Hx := Lib.hid hx
                  have Hbn := Lib.hid hbn
                  have Hxx := Lib.hid hxx
                  have C2 := Lib.hid c2
                  clear hn hx hbn hxx c2
                  go_wp2_with fail
                  go_ret
                  exact RNameP.is Hn.out
                · have c2I : (((byteN s i : Nat) : Int) == 47) = false := by simp; omega
                  have hok3 := hok2 (by unfold badC; simp; omega)
                  clear hok2 hbad
                  have Hok3 := Lib.hid hok3
                  have Hx := Lib.hid hx
                  have Hbn := Lib.hid hbn
                  have Hxx := Lib.hid hxx
                  have C2 := Lib.hid c2
                  clear hok3 hx hbn hxx c2
                  go_wp2_with fail
                  go_round
                  case rel => exact ⟨i + 1, by simp, by omega, Hok3.out⟩
                  case measure => simp [intOf]; omega
            · obtain rfl : i = s.length := by omega
              have hiI : ¬ ((s.length : Nat) : Int) < s.length := by omega
              have hany : s.any (fun c => decide (c.toNat < 32) || c.toNat == 47) = false := by
                rw [Bool.eq_false_iff]
                intro h
                rw [List.any_eq_true] at h
                obtain ⟨x, hx, hb⟩ := h
                obtain ⟨j, hj, e⟩ := List.getElem_of_mem hx
                have := hok j x hj (by rw [List.getElem?_eq_getElem hj, e])
                unfold badC at this
                rw [this] at hb
                cases hb
              clear hok
              by_cases h28 : 28 < s.length
              · have h28I : (28 : Int) < (s.length : Int) := by omega
                have hn : nameE s = 3 := by
                  unfold nameE
                  rw [Hnb.out, if_neg (by simp), hany, if_neg (by simp), if_pos h28]
                clear hany
                have Hn := Lib.hid hn
                clear hn
                go_wp2_with fail
                go_ret
                exact RNameP.is Hn.out
              · have h28I : ¬ (28 : Int) < (s.length : Int) := by omega
                have hn : nameE s = 0 := by
                  unfold nameE
                  rw [Hnb.out, if_neg (by simp), hany, if_neg (by simp), if_neg h28]
                clear hany
                have Hn := Lib.hid hn
                clear hn
                go_wp2_with fail
                go_ret
                exact RNameP.is Hn.out
end Go.Proofs.YtnlmdfbjmhcilaaDoor
/-
  loggiaref18: among, called, CheckUsers.
-/
namespace Go.Proofs.YtnlmdfbjmhcilaaDoor
open Go.RowKit Go.Proofs Go.Shelf
attribute [local go_sem] strOf_size strOf_get strOf_toList

set_option maxHeartbeats 1000000 in
theorem among_any (v : Value) (gb : Option Nat) (l : List (List UInt8)) (x : List UInt8) (w : World) (hr : recStr.Rd w v gb l) (hl : l.length ≤ 1000000) :
    Calls Tryd.prog 78 #[v, .string (strOf x)] w (RetBool (l.contains x) w) := by
  obtain ⟨A, cap, rfl, h1, h2, hu, h3, -⟩ := hr
  obtain ⟨L, hL⟩ : ∃ L, L = l.length := ⟨_, rfl⟩
  rw [← hL] at hl ⊢
  have H3 := Lib.hid h3
  have Hu := Lib.hid hu
  have HL := Lib.hid hL
  clear h3 hu hL
  go_enter Tryd.func78, Tryd.ntmps78
  go_wp2_with fail
  go_loopw [5] (fun iv wr => ∃ i : Nat, iv = .int .i64 i ∧ i ≤ L ∧ Keeps nowhere w wr ∧ ∀ j t, j < i → l[j]? = some t → t ≠ x) (fun iv _ => L - (intOf iv).toNat)
  case atStart => exact ⟨0, rfl, Nat.zero_le _, Keeps.refl _ _, fun j t hj => absurd hj (by omega)⟩
  case round =>
    obtain ⟨i, rfl, hi, hk, hno⟩ := hrel
    by_cases hlt : i < L
    · have hltI : (i : Int) < L := by omega
      have hi0 : (0 : Int) ≤ (i : Int) := by omega
      have hi1 : IntKind.i64.wrap ((i : Int) + 1) = i + 1 := IntWalk.i64_in _ (by omega)
      obtain ⟨b, off, rfl, hg, hc⟩ := H3.out (by rw [← HL.out]; omega)
      have hil : i < l.length := by rw [← HL.out]; exact hlt
      obtain ⟨t, ht⟩ : ∃ t, l[i]? = some t := ⟨_, List.getElem?_eq_getElem hil⟩
      have hj := atSt ((hc i _ ht).keep hk (Hu.out b hg) (fun h => h))
      rw [show i * recStr.n = i from Nat.mul_one i] at hj
      clear hc
      by_cases hx : t = x
      · have hxe : ((strOf t).toList == (strOf x).toList) = true := by rw [hx]; simp
        have hxf : (t == x) = true := by rw [hx]; simp
        have hidx : l.contains x = true := by simpa using List.mem_of_getElem? (hx ▸ ht)
        have Hk := Lib.hid hk
        have Hno := Lib.hid hno
        have Hidx := Lib.hid hidx
        have Ht := Lib.hid ht
        have Hg := Lib.hid hg
        have Hil := Lib.hid hil
        have Hx := Lib.hid hx
        clear hk hno hidx ht hg hil hx
        go_wp2_with fail
        go_ret
        exact ⟨by rw [Hidx.out]; rfl, Hk.out⟩
      · have hxe : ((strOf t).toList == (strOf x).toList) = false := by rw [strOf_toList, strOf_toList]; simpa using hx
        have hxf : (t == x) = false := by simpa using hx
        have Hk := Lib.hid hk
        have Hno := Lib.hid hno
        have Ht := Lib.hid ht
        have Hg := Lib.hid hg
        have Hil := Lib.hid hil
        have Hx := Lib.hid hx
        clear hk hno ht hg hil hx
        go_wp2_with fail
        go_roundw
        case rel => exact ⟨i + 1, by simp, by omega, Hk.out, fun j t' hj htj => by
          by_cases e : j = i
          · subst e; rw [Ht.out] at htj; injection htj with htj; rw [← htj]; exact Hx.out
          · exact Hno.out j t' (by omega) htj⟩
        case measure => simp [intOf]; omega
    · obtain rfl : i = L := by omega
      have hidx : l.contains x = false := by
        cases hc : l.contains x with
        | false => rfl
        | true =>
          have hmem : x ∈ l := by simpa using hc
          obtain ⟨j, hj, rfl⟩ := List.getElem_of_mem hmem
          exact absurd rfl (hno j _ (by rw [HL.out]; exact hj) (List.getElem?_eq_getElem hj))
      have Hk := Lib.hid hk
      have Hno := Lib.hid hno
      have Hidx := Lib.hid hidx
      clear hk hno hidx
      go_wp2_with fail
      go_ret
      exact ⟨by rw [Hidx.out]; rfl, Hk.out⟩
set_option maxHeartbeats 1000000 in
theorem called_any (s : List UInt8) (hl : s.length ≤ 1000000) (w : World) : Calls Tryd.prog 77 #[.string (strOf s)] w (RetBool (nameU s) w) := by
  obtain ⟨n, hn⟩ : ∃ n, n = s.length := ⟨_, rfl⟩
  have hnm := fun w => name_ref s (by omega) w
  rw [← hn] at hl
  obtain ⟨e, he⟩ : ∃ e, e = nameE s := ⟨_, rfl⟩
  unfold RNameP at hnm
  rw [← he] at hnm
  have Hn := Lib.hid hn
  have Hnm := Lib.hid hnm
  have He := Lib.hid he
  clear hn hnm he
  go_enter Tryd.func77, Tryd.ntmps77
  go_wp2_with fail
  go_loopw [3] (fun iv wr => ∃ i : Nat, iv = .int .i64 i ∧ i ≤ n ∧ Keeps nowhere w wr ∧ ∀ j t, j < i → s[j]? = some t → t ≠ 32) (fun iv _ => n - (intOf iv).toNat)
  case atStart => exact ⟨0, rfl, Nat.zero_le _, Keeps.refl _ _, fun j t hj => absurd hj (by omega)⟩
  case round =>
    obtain ⟨i, rfl, hi, hk, hno⟩ := hrel
    have hsz : s.length = n := Hn.out.symm
    by_cases hlt : i < n
    · have hltI : (i : Int) < n := by omega
      have hi0 : (0 : Int) ≤ (i : Int) := by omega
      have hi1 : IntKind.i64.wrap ((i : Int) + 1) = i + 1 := IntWalk.i64_in _ (by omega)
      obtain ⟨c, hc⟩ : ∃ c, s[i]? = some c := ⟨_, List.getElem?_eq_getElem (by rw [← Hn.out]; exact hlt)⟩
      have hbc : byteN s i = c.toNat := by unfold byteN; rw [hc]; rfl
      by_cases hx : c = 32
      · have hb32 : byteN s i = 32 := by rw [hbc, hx]; rfl
        have hnu : nameU s = false := by
          unfold nameU
          have : s.contains 32 = true := by simpa using List.mem_of_getElem? (hx ▸ hc)
          rw [this]; simp
        have Hk := Lib.hid hk
        have Hno := Lib.hid hno
        have Hc := Lib.hid hc
        have Hbc := Lib.hid hbc
        have Hx := Lib.hid hx
        have Hnu := Lib.hid hnu
        clear hk hno hc hbc hx hnu
        go_wp2_with fail
        go_ret
        exact ⟨by rw [Hnu.out]; rfl, Hk.out⟩
      · have hb32 : ((byteN s i : Int) == 32) = false := by
          rw [hbc]; simp; intro h; apply hx; exact UInt8.toNat_inj.1 (by show c.toNat = 32; omega)
        have Hk := Lib.hid hk
        have Hno := Lib.hid hno
        have Hc := Lib.hid hc
        have Hbc := Lib.hid hbc
        have Hx := Lib.hid hx
        clear hk hno hc hbc hx
        go_wp2_with fail
        go_roundw
        case rel => exact ⟨i + 1, by simp, by omega, Hk.out, fun j t' hj htj => by
          by_cases e : j = i
          · subst e; rw [Hc.out] at htj; injection htj with htj; rw [← htj]; exact Hx.out
          · exact Hno.out j t' (by omega) htj⟩
        case measure => simp [intOf]; omega
    · obtain rfl : i = n := by omega
      have hiI : ¬ (i : Int) < i := by omega
      have hnu : nameU s = (e == 0) := by
        unfold nameU
        have : s.contains 32 = false := by
          cases hc : s.contains 32 with
          | false => rfl
          | true =>
            have hmem : (32 : UInt8) ∈ s := by simpa using hc
            obtain ⟨j, hj, h2⟩ := List.getElem_of_mem hmem
            exact absurd h2 (hno j _ (by rw [Hn.out]; exact hj) (List.getElem?_eq_getElem hj))
        rw [this, ← He.out]; simp
      have hcall := Hnm.out wr
      have Hk := Lib.hid hk
      have Hno := Lib.hid hno
      have Hnu := Lib.hid hnu
      have Hcall := Lib.hid hcall
      clear hk hno hnu hcall
      go_wp2_with fail
      refine Hcall.out.mono ?_
      rintro e' w2 ⟨rfl, rfl⟩
      go_wp2_with fail
      go_ret
      exact ⟨by rw [Hnu.out]; rfl, Hk.out⟩
/-- groups of the reference -/
def recG2 : RecT GrpV := ⟨94, 2, fun x => [.string (strOf x.nm), .slice x.A x.n x.c], fun _ => rfl, fun _ u hu => by simp at hu; rcases hu with rfl | rfl <;> rfl, by decide⟩
theorem infoG2 : (Tryd.prog.info? 94).map (fun i => (i.zero, i.size, i.bytes)) = some (some (.agg #[.string ⟨#[]⟩, .slice none 0 0]), 2, 40) := by kernel_rfl
theorem rdG2_cell {w : World} {A : Option Addr} {n c : Nat} {g : Option Nat} {L : List GrpV} (h : recG2.Rd w (.slice A n c) g L) {i : Nat} {x : GrpV} (hx : L[i]? = some x) : ∃ b o, A = some ⟨b, o, none⟩ ∧ w.cell? ⟨b, o + i * 2, none⟩ = some (.string (strOf x.nm)) ∧ w.cell? ⟨b, o + i * 2 + 1, none⟩ = some (.slice x.A x.n x.c) := by
  obtain ⟨A', c', hv, -, -, -, h3, -⟩ := h
  injection hv with h1 _ _
  obtain ⟨b, o, hA, -, hc⟩ := h3 (by have := (List.getElem?_eq_some_iff.1 hx).1; omega)
  have h := hc i x hx
  exact ⟨b, o, h1.trans hA, h 0 (by decide), h 1 (by decide)⟩
/-- users and groups as the reference has them -/
def RU (w : World) (vu vg : Value) (us : List (List UInt8)) (gs : List Grp) : Prop := ∃ gu gg xs, recStr.Rd w vu gu us ∧ recG2.Rd w vg gg xs ∧ Each (GRd w) xs gs
theorem RU.same {w w' : World} {vu vg : Value} {us : List (List UInt8)} {gs : List Grp} (h : RU w vu vg us gs) (hk : Keeps nowhere w w') : RU w' vu vg us gs := by
  obtain ⟨gu, gg, xs, h1, h2, h3⟩ := h
  exact ⟨gu, gg, xs, h1.same hk, h2.same hk, h3.imp fun x g hg => hg.same hk⟩
end Go.Proofs.YtnlmdfbjmhcilaaDoor
/-
  loggiaref18: CheckUsers.
-/
namespace Go.Proofs.YtnlmdfbjmhcilaaDoor
open Go.RowKit Go.Proofs Go.Shelf
attribute [local go_sem] strOf_size strOf_get strOf_toList

/-- an index within a slice that reads -/
theorem rd_form {α : Type} {R : RecT α} {w : World} {v : Value} {g : Option Nat} {l : List α} (h : R.Rd w v g l) : ∃ A c, v = .slice A l.length c ∧ l.length ≤ c ∧ c ≤ maxLen := by
  obtain ⟨A, c, hv, h1, h2, -⟩ := h
  exact ⟨A, c, hv, h1, h2⟩
def CkP (us : List (List UInt8)) (gs : List Grp) (w : World) : Ending → World → Prop := fun e w' => e = .returned (.int .i64 (newE us gs)) ∧ Keeps nowhere w w'
theorem CkP.is {us : List (List UInt8)} {gs : List Grp} {w w' : World} {x : Int} (h : newE us gs = x) (hk : Keeps nowhere w w') : CkP us gs w (.returned (.int .i64 x)) w' := ⟨by rw [h], hk⟩
theorem names_step {gs : List Grp} {i : Nat} {m : Grp} (hm : gs[i]? = some m) (nm : List UInt8) : (gs.take (i + 1)).any (fun x => x.nm == nm) = ((gs.take i).any (fun x => x.nm == nm) || m.nm == nm) := by
  obtain ⟨hi, rfl⟩ := List.getElem?_eq_some_iff.1 hm
  rw [List.take_succ_eq_append_getElem hi, List.any_append]; simp only [List.any_cons, List.any_nil, Bool.or_false]
set_option maxRecDepth 20000 in
set_option maxHeartbeats 8000000 in
theorem check_any (vu vg : Value) (us : List (List UInt8)) (gs : List Grp) (w : World) (h : RU w vu vg us gs) (hl : us.length ≤ 1000000) (hl2 : gs.length ≤ 1000000)
    (hl3 : ∀ g ∈ gs, g.ms.length ≤ 1000000 ∧ g.nm.length ≤ 1000000) (hl4 : ∀ s ∈ us, s.length ≤ 1000000) :
    Calls Tryd.prog 50 #[.agg #[vu, vg]] w (CkP us gs w) := by
  obtain ⟨gu, gg, xs, hu, hg, he⟩ := h
  obtain ⟨Au, cu, rfl, hcu, hcum⟩ := rd_form hu
  obtain ⟨Ag, cg, rfl, -, -⟩ := rd_form hg
  have hlen := he.1
  obtain ⟨n1, hn1⟩ : ∃ n, n = us.length := ⟨_, rfl⟩
  obtain ⟨n2, hn2⟩ : ∃ n, n = xs.length := ⟨_, rfl⟩
  have hn2g : n2 = gs.length := by rw [hn2, hlen]
  rw [← hn1] at hu hl hcu ⊢
  rw [← hn2] at hg ⊢
  rw [← hn2g] at hl2
  clear hlen
  obtain ⟨p, hp⟩ : ∃ p, p = w.heap.size := ⟨_, rfl⟩
  obtain ⟨w1, hw1⟩ : ∃ w1, w1 = w.alloc (.cells #[.slice Au n1 cu, .slice Ag n2 cg] 54) := ⟨_, rfl⟩
  have hk1 : Keeps nowhere w w1 := by rw [hw1]; exact (Keeps.refl nowhere w).alloc _
  have hb1 : Blk w1 p 54 #[.slice Au n1 cu, .slice Ag n2 cg] := by rw [hw1, hp]; exact Blk.new _ _ _
  have cells : ∀ wr, Keeps nowhere w1 wr → wr.cell? ⟨p, 0, none⟩ = some (.slice Au n1 cu) ∧ wr.cell? ⟨p, 1, none⟩ = some (.slice Ag n2 cg) := fun wr hk => by
    have := hb1.keep hk (fun h => h)
    exact ⟨by simpa using this.cell 0, by simpa using this.cell 1⟩
  have e0 := (cells w1 (Keeps.refl _ _)).1
  have e1 := (cells w1 (Keeps.refl _ _)).2
  by_cases hlong : 32 < n1 ∨ 32 < n2
  · have hne : newE us gs = 3 := by unfold newE; rw [if_pos (by rw [← hn1, ← hn2g]; exact hlong)]
    have hfin := CkP.is hne hk1
    clear hl3 hl4
    by_cases h1 : 32 < n1
    · have h1I : (32 : Int) < n1 := by omega
      clear cells hlong
      have Hu := Lib.hid hu
      have Hg := Lib.hid hg
      have He := Lib.hid he
      have Hne := Lib.hid hne
      have Hfin := Lib.hid hfin
      have Hw1 := Lib.hid hw1
      have Hp := Lib.hid hp
      have Hb1 := Lib.hid hb1
      have Hk1 := Lib.hid hk1
      have Hn1 := Lib.hid hn1
      have Hn2 := Lib.hid hn2
      have Hn2g := Lib.hid hn2g
      clear hu hg he hne hfin hw1 hp hb1 hk1 hn1 hn2 hn2g
      go_enter Tryd.func50, Tryd.ntmps50
      go_upto_region 1 with fail
      rw [← Hw1.out]
      simp only [← Hp.out]
      go_wp2_with fail
      go_ret
      exact Hfin.out
    · have h1I : ¬ (32 : Int) < n1 := by omega
      have h2I : (32 : Int) < n2 := by omega
      clear cells hlong
      have Hu := Lib.hid hu
      have Hg := Lib.hid hg
      have He := Lib.hid he
      have Hne := Lib.hid hne
      have Hfin := Lib.hid hfin
      have Hw1 := Lib.hid hw1
      have Hp := Lib.hid hp
      have Hb1 := Lib.hid hb1
      have Hk1 := Lib.hid hk1
      have Hn1 := Lib.hid hn1
      have Hn2 := Lib.hid hn2
      have Hn2g := Lib.hid hn2g
      clear hu hg he hne hfin hw1 hp hb1 hk1 hn1 hn2 hn2g
      go_enter Tryd.func50, Tryd.ntmps50
      go_upto_region 1 with fail
      rw [← Hw1.out]
      simp only [← Hp.out]
      go_wp2_with fail
      go_ret
      exact Hfin.out
  · have h1I : ¬ (32 : Int) < n1 := by omega
    have h2I : ¬ (32 : Int) < n2 := by omega
    have hne : newE us gs = if usersE (us.take 0) (us.drop 0) = 0 then groupsE us (gs.take 0) (gs.drop 0) else usersE (us.take 0) (us.drop 0) := by
      unfold newE; rw [if_neg (by rw [← hn1, ← hn2g]; exact hlong)]; rfl
    have Hw1 := Lib.hid hw1
    have Hp := Lib.hid hp
    have Hk1 := Lib.hid hk1
    have Hb1 := Lib.hid hb1
    have Hu := Lib.hid hu
    have Hg := Lib.hid hg
    have He := Lib.hid he
    have Hne := Lib.hid hne
    have Hn1 := Lib.hid hn1
    have Hn2 := Lib.hid hn2
    have Hn2g := Lib.hid hn2g
    have Cells := Lib.hid cells
    have Hl3 := Lib.hid hl3
    have Hl4 := Lib.hid hl4
    have Hcum := Lib.hid hcum
    clear hw1 hp hk1 hb1 hu hg he hne hn1 hn2 hn2g cells hl3 hl4 hcum
    go_enter Tryd.func50, Tryd.ntmps50
    go_upto_region 1 with fail
    rw [← Hw1.out]
    simp only [← Hp.out]
    go_wp2_with fail
    go_loopw [3] (fun iv wr => ∃ i : Nat, iv = .int .i64 i ∧ i ≤ n1 ∧ Keeps nowhere w1 wr ∧ usersE (us.take 0) (us.drop 0) = usersE (us.take i) (us.drop i)) (fun iv _ => n1 - (intOf iv).toNat)
    case atStart => exact ⟨0, rfl, Nat.zero_le _, Keeps.refl _ _, rfl⟩
    case round =>
      obtain ⟨i, rfl, hi, hk, hse⟩ := hrel
      clear e0 e1
      obtain ⟨e0, e1⟩ := Cells.out wr hk
      have hkw := Hk1.out.more hk
      by_cases hlt : i < n1
      · have hltI : (i : Int) < n1 := by omega
        have hi0 : (0 : Int) ≤ (i : Int) := by omega
        have hiC : (i : Int) ≤ cu := by omega
        have hi1 : IntKind.i64.wrap ((i : Int) + 1) = i + 1 := IntWalk.i64_in _ (by omega)
        obtain ⟨m, hm⟩ : ∃ m, us[i]? = some m := ⟨_, List.getElem?_eq_getElem (by rw [← Hn1.out]; exact hlt)⟩
        have hur := Hu.out.same hkw
        obtain ⟨bb, oo, rfl, d0⟩ := rdSt_cell hur hm
        have hcall := called_any m (Hl4.out m (List.mem_of_getElem? hm)) wr
        rw [usersE_step hm] at hse
        cases hnm : nameU m with
        | false =>
          have hue : userE (us.take i) m = 6 := by unfold userE; rw [if_pos hnm]
          rw [hue, if_neg (by decide)] at hse
          have hx : newE us gs = 6 := by rw [Hne.out, hse, if_neg (by decide)]
          rw [hnm] at hcall
          have Hk := Lib.hid hk
          have Hse := Lib.hid hse
          have Hkw := Lib.hid hkw
          have Hur := Lib.hid hur
          have Hm := Lib.hid hm
          have Hcall := Lib.hid hcall
          have Hnm := Lib.hid hnm
          have Hue := Lib.hid hue
          have Hx := Lib.hid hx
          clear hk hse hkw hur hm hcall hnm hue hx
          go_wp2_with fail
          refine Hcall.out.mono ?_
          rintro e w2 ⟨rfl, hk2⟩
          have Hk2 := Lib.hid hk2
          clear hk2
          go_wp2_with fail
          go_ret
          exact CkP.is Hx.out (Hkw.out.more Hk2.out)
        | true =>
          rw [hnm] at hcall
          obtain ⟨b, hb⟩ : ∃ b, b = (us.take i).contains m := ⟨_, rfl⟩
          have htk := hur.take i (by rw [← Hn1.out]; omega)
          have Hk := Lib.hid hk
          have Hse := Lib.hid hse
          have Hkw := Lib.hid hkw
          have Hur := Lib.hid hur
          have Hm := Lib.hid hm
          have Hcall := Lib.hid hcall
          have Hnm := Lib.hid hnm
          have Hb := Lib.hid hb
          have Htk := Lib.hid htk
          clear hk hse hkw hur hm hcall hnm hb htk
          go_wp2_with fail
          refine Hcall.out.mono ?_
          rintro e w2 ⟨rfl, hk2⟩
          have hk02 := Hkw.out.more hk2
          have hk12 := Hk.out.more hk2
          have htk2 := Htk.out.same (hk2.drew)
          have ham := among_any _ _ (us.take i) m w2.drew htk2 (by rw [List.length_take]; omega)
          rw [← Hb.out] at ham
          have q1 : ∀ w', Keeps nowhere w2.drew w' → w'.cell? ⟨p, 0, none⟩ = some (.slice (some ⟨bb, oo, none⟩) n1 cu) := fun w' e => (Cells.out w' (hk12.drew.more e)).1
          have q2 : ∀ w', Keeps nowhere w2.drew w' → w'.cell? ⟨bb, oo + i, none⟩ = some (.string (strOf m)) := fun w' e => by
            obtain ⟨b2, o2, hA, hc⟩ := rdSt_cell ((Hur.out.same (hk2.drew)).same e) Hm.out
            injection hA with hA
            injection hA with h1 h2
            subst h1 h2
            exact hc
          clear htk2 hk2 e0 e1 d0
          have Hk02 := Lib.hid hk02
          have Hk12 := Lib.hid hk12
          have Ham := Lib.hid ham
          clear hk02 hk12 ham
          go_wp2_with fail
          refine wp_region_script [0, 1, 2, 3, 4, 5, 6, 7, 8] [1, 5, 8] [.ps [0, 4, 2, 6], .fs [1, 5], .ps [3, 7], .fs [8], .es [9] false] (Keeps nowhere w2.drew) rfl (by kernel_rfl) ?_
          refine wpS_ps rfl fun K hK => ?_
          simp only [List.map_cons, List.map_nil, Option.getD_some, List.getElem?_toArray, List.getElem?_cons_zero, List.getElem?_cons_succ]
          iterate 4 (first | (apply quietO_cons _ rfl; (intro w' _; go_simp; rfl)) | apply quietO_skip rfl)
          refine hK _ ?_
          clear hK K
          simp only [Act.put, List.setIfInBounds_toArray, List.set_cons_zero, List.set_cons_succ]
          refine wpS_fs rfl (Keeps.refl _ _) fun K hK => ?_
          simp only [List.map_cons, List.map_nil, Option.getD_some, List.getElem?_toArray, List.getElem?_cons_zero, List.getElem?_cons_succ]
          iterate 2 (first | (apply quietO_cons _ rfl; (intro w' hs; have c_0 := q1 w' hs; go_simp; rfl)) | apply quietO_skip rfl)
          refine hK _ ?_
          clear hK K
          simp only [Act.put, List.setIfInBounds_toArray, List.set_cons_zero, List.set_cons_succ]
          refine wpS_ps rfl fun K hK => ?_
          simp only [List.map_cons, List.map_nil, Option.getD_some, List.getElem?_toArray, List.getElem?_cons_zero, List.getElem?_cons_succ]
          iterate 2 (first | (apply quietO_cons _ rfl; (intro w' _; go_simp; rfl)) | apply quietO_skip rfl)
          refine hK _ ?_
          clear hK K
          simp only [Act.put, List.setIfInBounds_toArray, List.set_cons_zero, List.set_cons_succ]
          refine wpS_fs rfl (Keeps.refl _ _) fun K hK => ?_
          simp only [List.map_cons, List.map_nil, Option.getD_some, List.getElem?_toArray, List.getElem?_cons_zero, List.getElem?_cons_succ]
          iterate 1 (first | (apply quietO_cons _ rfl; (intro w' hs; have c_0 := q2 w' hs; go_simp; rfl)) | apply quietO_skip rfl)
          refine hK _ ?_
          clear hK K
          simp only [Act.put, List.setIfInBounds_toArray, List.set_cons_zero, List.set_cons_succ]
          clear q1 q2
          refine wpS_es rfl fun K hK => ?_
          have HK := Lib.hid hK
          clear hK
          simp only [List.map_cons, List.map_nil, Option.getD_some, List.getElem?_toArray, List.getElem?_cons_zero, List.getElem?_cons_succ]
          go_wp2_with fail
          refine Ham.out.mono ?_
          rintro e w3 ⟨rfl, hk3⟩
          have hk03 := Hk02.out.drew.more hk3
          have hk13 := Hk12.out.drew.more hk3
          clear hk3
          have Hk03 := Lib.hid hk03
          have Hk13 := Lib.hid hk13
          clear hk03 hk13
          go_wp2_with fail
          refine HK.out _ _ (fun h => by cases h) ?_
          clear HK K
          refine wpS_nil ?_
          cases b with
          | true =>
            have hue : userE (us.take i) m = 7 := by unfold userE; rw [Hnm.out, if_neg (by decide), if_pos Hb.out.symm]
            have hx : newE us gs = 7 := by rw [Hne.out, Hse.out, hue]; rfl
            have Hue := Lib.hid hue
            have Hx := Lib.hid hx
            clear hue hx
            go_wp2_with fail
            go_ret
            exact CkP.is Hx.out Hk03.out
          | false =>
            have hue : userE (us.take i) m = 0 := by unfold userE; rw [Hnm.out, if_neg (by decide), if_neg (by rw [← Hb.out]; decide)]
            have hse2 := Hse.out
            rw [hue, if_pos rfl] at hse2
            have Hue := Lib.hid hue
            have Hse2 := Lib.hid hse2
            clear hue hse2
            go_wp2_with fail
            go_roundw
            case rel => exact ⟨i + 1, by simp, by omega, Hk13.out, Hse2.out⟩
            case measure => simp [intOf]; omega
      · obtain rfl : i = n1 := by omega
        have hiI : ¬ (i : Int) < i := by omega
        have hse0 : usersE (us.take 0) (us.drop 0) = 0 := by rw [hse, Hn1.out, List.drop_length]; rfl
        have hne2 : newE us gs = groupsE us (gs.take 0) (gs.drop 0) := by rw [Hne.out, if_pos hse0]
        clear hse
        have Hk := Lib.hid hk
        have Hkw := Lib.hid hkw
        have Hse0 := Lib.hid hse0
        have Hne2 := Lib.hid hne2
        clear hk hkw hse0 hne2
        go_wp2_with fail
        go_loopw [4] (fun jv wz => ∃ j : Nat, jv = .int .i64 j ∧ j ≤ n2 ∧ Keeps nowhere w1 wz ∧ newE us gs = groupsE us (gs.take j) (gs.drop j)) (fun jv _ => n2 - (intOf jv).toNat)
        case atStart => exact ⟨0, rfl, Nat.zero_le _, Hk.out, Hne2.out⟩
        case round =>
          clear e0 e1
          obtain ⟨j, rfl, hj, hkj, hge⟩ := hrel
          obtain ⟨e0, e1⟩ := Cells.out wr hkj
          have hkwj := Hk1.out.more hkj
          by_cases hlt : j < n2
          · have hltI : (j : Int) < n2 := by omega
            have hj0 : (0 : Int) ≤ (j : Int) := by omega
            have hj1 : IntKind.i64.wrap ((j : Int) + 1) = j + 1 := IntWalk.i64_in _ (by omega)
            obtain ⟨x, hx⟩ : ∃ x, xs[j]? = some x := ⟨_, List.getElem?_eq_getElem (by rw [← Hn2.out]; exact hlt)⟩
            obtain ⟨g, hgj, hgx⟩ := He.out.2 j x hx
            obtain ⟨bg, og, rfl, d0, d1⟩ := rdG2_cell (Hg.out.same hkwj) hx
            obtain ⟨nm, xA, xn, xc⟩ := x
            obtain ⟨hnmE, km, hms⟩ := hgx
            simp only at d0 d1 hnmE
            subst hnmE
            unfold GrpV.sl at hms
            simp only at hms
            obtain ⟨hxn, hxc⟩ : xn = g.ms.length ∧ xn ≤ xc := by
              obtain ⟨A', c', hv, j1, j2⟩ := rd_form hms
              injection hv with _ i2 i3
              exact ⟨i2, by omega⟩
            subst hxn
            have hbnd := Hl3.out g (List.mem_of_getElem? hgj)
            rw [groupsE_step hgj] at hge
            have hcall := called_any g.nm hbnd.2
            have Hkj := Lib.hid hkj
            have Hge := Lib.hid hge
            have Hkwj := Lib.hid hkwj
            have Hx := Lib.hid hx
            have Hgj := Lib.hid hgj
            have Hms := Lib.hid hms
            have Hcall := Lib.hid hcall
            have Hbnd := Lib.hid hbnd
            clear hkj hge hkwj hx hgj hms hcall hbnd
            go_upto_region 14 with fail
            obtain ⟨w5, hw5⟩ : ∃ w5, w5 = wr.alloc (.cells #[.string (strOf g.nm), .slice xA g.ms.length xc] 94) := ⟨_, rfl⟩
            obtain ⟨q, hq⟩ : ∃ q, q = wr.heap.size := ⟨_, rfl⟩
            have hk5 : Keeps nowhere wr w5 := by rw [hw5]; exact (Keeps.refl nowhere wr).alloc _
            have hb5 : Blk w5 q 94 #[.string (strOf g.nm), .slice xA g.ms.length xc] := by rw [hw5, hq]; exact Blk.new _ _ _
            rw [← hw5]
            simp only [← hq]
            have hk15 := Hkj.out.more hk5
            have cells5 : ∀ wz, Keeps nowhere w5 wz → wz.cell? ⟨q, 0, none⟩ = some (.string (strOf g.nm)) ∧ wz.cell? ⟨q, 1, none⟩ = some (.slice xA g.ms.length xc) ∧ wz.cell? ⟨p, 0, none⟩ = some (.slice Au i cu) ∧ wz.cell? ⟨p, 1, none⟩ = some (.slice (some ⟨bg, og, none⟩) n2 cg) := fun wz hz => by
              have h5 := hb5.keep hz (fun h => h)
              have h6 := Cells.out wz (hk15.more hz)
              exact ⟨by simpa using h5.cell 0, by simpa using h5.cell 1, h6.1, h6.2⟩
            clear e0 e1 d0 d1
            have f0 := (cells5 w5 (Keeps.refl _ _)).1
            have hcall5 := Hcall.out w5
            obtain ⟨N, hN⟩ : ∃ N, N = g.ms.length := ⟨_, rfl⟩
            rw [← hN] at cells5 ⊢
            have Hw5 := Lib.hid hw5
            have Hq := Lib.hid hq
            have Hk5 := Lib.hid hk5
            have Hb5 := Lib.hid hb5
            have Hk15 := Lib.hid hk15
            have Cells5 := Lib.hid cells5
            have Hcall5 := Lib.hid hcall5
            have HN := Lib.hid hN
            clear hw5 hq hk5 hb5 hk15 cells5 hcall5 hN
            go_wp2_with fail
            refine Hcall5.out.mono ?_
            rintro e w6 ⟨rfl, hk6⟩
            have hk56 := hk6
            have hk16 := Hk15.out.more hk6
            have hkw6 := Hk1.out.more hk16
            clear hk6 f0
            have Hk56 := Lib.hid hk56
            have Hk16 := Lib.hid hk16
            have Hkw6 := Lib.hid hkw6
            clear hk56 hk16 hkw6
            cases hnm : nameU g.nm with
            | false =>
              have hx2 : newE us gs = 6 := by
                rw [Hge.out]
                have : groupE us (gs.take j) g = 6 := by unfold groupE; rw [if_pos hnm]
                rw [this]; rfl
              have Hnm := Lib.hid hnm
              have Hx2 := Lib.hid hx2
              clear hnm hx2
              go_wp2_with fail
              go_ret
              exact CkP.is Hx2.out Hkw6.out
            | true =>
              have Hnm := Lib.hid hnm
              clear hnm
              go_wp2_with fail
              go_loopw [6] (fun kv wz => ∃ k : Nat, kv = .int .i64 k ∧ k ≤ j ∧ Keeps nowhere w5 wz ∧ (gs.take k).any (fun x => x.nm == g.nm) = false) (fun kv _ => j - (intOf kv).toNat)
              case atStart => exact ⟨0, rfl, Nat.zero_le _, Hk56.out, rfl⟩
              case round =>
                obtain ⟨k, rfl, hkj2, hkz, hno⟩ := hrel
                obtain ⟨f0, f1, f2, f3⟩ := Cells5.out wr hkz
                by_cases hlt2 : k < j
                · have hlt2I : (k : Int) < j := by omega
                  have hk0 : (0 : Int) ≤ (k : Int) := by omega
                  have hkn : (k : Int) < n2 := by omega
                  have hk1' : IntKind.i64.wrap ((k : Int) + 1) = k + 1 := IntWalk.i64_in _ (by omega)
                  obtain ⟨y, hy⟩ : ∃ y, xs[k]? = some y := ⟨_, List.getElem?_eq_getElem (by rw [← Hn2.out]; omega)⟩
                  obtain ⟨gk, hgk, hgy⟩ := He.out.2 k y hy
                  have q0 : ∀ w', Keeps nowhere wr.drew w' → w'.cell? ⟨p, 1, none⟩ = some (.slice (some ⟨bg, og, none⟩) n2 cg) ∧ w'.cell? ⟨q, 0, none⟩ = some (.string (strOf g.nm)) ∧ w'.cell? ⟨bg, og + k * 2, none⟩ = some (.string (strOf gk.nm)) := fun w' e => by
                    have hz := Cells5.out w' (hkz.drew.more e)
                    obtain ⟨b2, o2, hA, hc, -⟩ := rdG2_cell (Hg.out.same ((Hk1.out.more Hk15.out).more (hkz.drew.more e))) hy
                    injection hA with hA
                    injection hA with h1 h2
                    subst h1 h2
                    rw [hgy.1] at hc
                    exact ⟨hz.2.2.2, hz.1, hc⟩
                  have qa := fun w' e => (q0 w' e).1
                  have qb := fun w' e => (q0 w' e).2.1
                  have qc := fun w' e => (q0 w' e).2.2
                  have hst := names_step hgk g.nm
                  clear q0 f0 f1 f2 f3
                  by_cases heq : gk.nm = g.nm
                  · have hxe : ((strOf gk.nm).toList == (strOf g.nm).toList) = true := by rw [heq]; simp
                    have hxf : (gk.nm == g.nm) = true := by rw [heq]; simp
                    have hany : (gs.take j).any (fun x => x.nm == g.nm) = true := by
                      rw [List.any_eq_true]
                      exact ⟨gk, List.mem_of_getElem? (i := k) (by rw [List.getElem?_take, if_pos hlt2]; exact hgk), hxf⟩
                    have hx2 : newE us gs = 7 := by
                      rw [Hge.out]
                      have : groupE us (gs.take j) g = 7 := by unfold groupE; rw [if_neg (by rw [Hnm.out]; decide), if_pos hany]
                      rw [this]; rfl
                    have Hkz := Lib.hid hkz
                    have Hno := Lib.hid hno
                    have Hy := Lib.hid hy
                    have Hgk := Lib.hid hgk
                    have Hgy := Lib.hid hgy
                    have Hst := Lib.hid hst
                    have Heq := Lib.hid heq
                    have Hany := Lib.hid hany
                    have Hx2 := Lib.hid hx2
                    clear hkz hno hy hgk hgy hst heq hany hx2
                    go_wp2_with fail
                    refine wp_region_script [0, 1, 2, 3, 4, 5, 6, 7, 8] [1, 5, 7] [.ps [0, 2, 6], .fs [1, 7], .ps [3, 4], .fs [5], .ps [8]] (Keeps nowhere wr.drew) rfl (by kernel_rfl) ?_
                    refine wpS_ps rfl fun K hK => ?_
                    simp only [List.map_cons, List.map_nil, Option.getD_some, List.getElem?_toArray, List.getElem?_cons_zero, List.getElem?_cons_succ]
                    iterate 3 (first | (apply quietO_cons _ rfl; (intro w' _; go_simp; rfl)) | apply quietO_skip rfl)
                    refine hK _ ?_
                    clear hK K
                    simp only [Act.put, List.setIfInBounds_toArray, List.set_cons_zero, List.set_cons_succ]
                    refine wpS_fs rfl (Keeps.refl _ _) fun K hK => ?_
                    simp only [List.map_cons, List.map_nil, Option.getD_some, List.getElem?_toArray, List.getElem?_cons_zero, List.getElem?_cons_succ]
                    iterate 2 (first | (apply quietO_cons _ rfl; (intro w' hs; have c_0 := qa w' hs; have c_1 := qb w' hs; go_simp; rfl)) | apply quietO_skip rfl)
                    refine hK _ ?_
                    clear hK K
                    simp only [Act.put, List.setIfInBounds_toArray, List.set_cons_zero, List.set_cons_succ]
                    refine wpS_ps rfl fun K hK => ?_
                    simp only [List.map_cons, List.map_nil, Option.getD_some, List.getElem?_toArray, List.getElem?_cons_zero, List.getElem?_cons_succ]
                    iterate 2 (first | (apply quietO_cons _ rfl; (intro w' _; go_simp; rfl)) | apply quietO_skip rfl)
                    refine hK _ ?_
                    clear hK K
                    simp only [Act.put, List.setIfInBounds_toArray, List.set_cons_zero, List.set_cons_succ]
                    refine wpS_fs rfl (Keeps.refl _ _) fun K hK => ?_
                    simp only [List.map_cons, List.map_nil, Option.getD_some, List.getElem?_toArray, List.getElem?_cons_zero, List.getElem?_cons_succ]
                    iterate 1 (first | (apply quietO_cons _ rfl; (intro w' hs; have c_0 := qc w' hs; go_simp; rfl)) | apply quietO_skip rfl)
                    refine hK _ ?_
                    clear hK K
                    simp only [Act.put, List.setIfInBounds_toArray, List.set_cons_zero, List.set_cons_succ]
                    refine wpS_ps rfl fun K hK => ?_
                    simp only [List.map_cons, List.map_nil, Option.getD_some, List.getElem?_toArray, List.getElem?_cons_zero, List.getElem?_cons_succ]
                    iterate 1 (first | (apply quietO_cons _ rfl; (intro w' _; go_simp; rfl)) | apply quietO_skip rfl)
                    refine hK _ ?_
                    clear hK K
                    simp only [Act.put, List.setIfInBounds_toArray, List.set_cons_zero, List.set_cons_succ]
                    refine wpS_nil ?_
                    clear qa qb qc
                    go_wp2_with fail
                    go_ret
                    exact CkP.is Hx2.out (((Hk1.out.more Hk15.out).more Hkz.out).drew)
                  · have hxe : ((strOf gk.nm).toList == (strOf g.nm).toList) = false := by rw [strOf_toList, strOf_toList]; simpa using heq
                    have hxf : (gk.nm == g.nm) = false := by simpa using heq
                    have hno2 : (gs.take (k + 1)).any (fun x => x.nm == g.nm) = false := by rw [hst, hno, hxf]; rfl
                    have Hkz := Lib.hid hkz
                    have Hno := Lib.hid hno
                    have Hy := Lib.hid hy
                    have Hgk := Lib.hid hgk
                    have Hgy := Lib.hid hgy
                    have Hst := Lib.hid hst
                    have Heq := Lib.hid heq
                    have Hno2 := Lib.hid hno2
                    clear hkz hno hy hgk hgy hst heq hno2
                    go_wp2_with fail
                    refine wp_region_script [0, 1, 2, 3, 4, 5, 6, 7, 8] [1, 5, 7] [.ps [0, 2, 6], .fs [1, 7], .ps [3, 4], .fs [5], .ps [8]] (Keeps nowhere wr.drew) rfl (by kernel_rfl) ?_
                    refine wpS_ps rfl fun K hK => ?_
                    simp only [List.map_cons, List.map_nil, Option.getD_some, List.getElem?_toArray, List.getElem?_cons_zero, List.getElem?_cons_succ]
                    iterate 3 (first | (apply quietO_cons _ rfl; (intro w' _; go_simp; rfl)) | apply quietO_skip rfl)
                    refine hK _ ?_
                    clear hK K
                    simp only [Act.put, List.setIfInBounds_toArray, List.set_cons_zero, List.set_cons_succ]
                    refine wpS_fs rfl (Keeps.refl _ _) fun K hK => ?_
                    simp only [List.map_cons, List.map_nil, Option.getD_some, List.getElem?_toArray, List.getElem?_cons_zero, List.getElem?_cons_succ]
                    iterate 2 (first | (apply quietO_cons _ rfl; (intro w' hs; have c_0 := qa w' hs; have c_1 := qb w' hs; go_simp; rfl)) | apply quietO_skip rfl)
                    refine hK _ ?_
                    clear hK K
                    simp only [Act.put, List.setIfInBounds_toArray, List.set_cons_zero, List.set_cons_succ]
                    refine wpS_ps rfl fun K hK => ?_
                    simp only [List.map_cons, List.map_nil, Option.getD_some, List.getElem?_toArray, List.getElem?_cons_zero, List.getElem?_cons_succ]
                    iterate 2 (first | (apply quietO_cons _ rfl; (intro w' _; go_simp; rfl)) | apply quietO_skip rfl)
                    refine hK _ ?_
                    clear hK K
                    simp only [Act.put, List.setIfInBounds_toArray, List.set_cons_zero, List.set_cons_succ]
                    refine wpS_fs rfl (Keeps.refl _ _) fun K hK => ?_
                    simp only [List.map_cons, List.map_nil, Option.getD_some, List.getElem?_toArray, List.getElem?_cons_zero, List.getElem?_cons_succ]
                    iterate 1 (first | (apply quietO_cons _ rfl; (intro w' hs; have c_0 := qc w' hs; go_simp; rfl)) | apply quietO_skip rfl)
                    refine hK _ ?_
                    clear hK K
                    simp only [Act.put, List.setIfInBounds_toArray, List.set_cons_zero, List.set_cons_succ]
                    refine wpS_ps rfl fun K hK => ?_
                    simp only [List.map_cons, List.map_nil, Option.getD_some, List.getElem?_toArray, List.getElem?_cons_zero, List.getElem?_cons_succ]
                    iterate 1 (first | (apply quietO_cons _ rfl; (intro w' _; go_simp; rfl)) | apply quietO_skip rfl)
                    refine hK _ ?_
                    clear hK K
                    simp only [Act.put, List.setIfInBounds_toArray, List.set_cons_zero, List.set_cons_succ]
                    refine wpS_nil ?_
                    clear qa qb qc
                    go_wp2_with fail
                    go_roundw
                    case rel => exact ⟨k + 1, by simp, by omega, Hkz.out.drew, Hno2.out⟩
                    case measure => simp [intOf]; omega
                · obtain rfl : k = j := by omega
                  have hkI : ¬ (k : Int) < k := by omega
                  clear f0 f1 f2 f3
                  have Hkz := Lib.hid hkz
                  have Hno := Lib.hid hno
                  clear hkz hno
                  go_wp2_with fail
                  go_loopw [7] (fun mv wz => ∃ m : Nat, mv = .int .i64 m ∧ m ≤ N ∧ Keeps nowhere w5 wz ∧ membersE us (g.ms.take 0) (g.ms.drop 0) = membersE us (g.ms.take m) (g.ms.drop m)) (fun mv _ => N - (intOf mv).toNat)
                  case atStart => exact ⟨0, rfl, Nat.zero_le _, Hkz.out, rfl⟩
                  case round =>
                    obtain ⟨m, rfl, hmN, hkm, hme⟩ := hrel
                    obtain ⟨f0, f1, f2, f3⟩ := Cells5.out wr hkm
                    have hkwm := (Hk1.out.more Hk15.out).more hkm
                    have hgE : groupE us (gs.take k) g = membersE us (g.ms.take 0) (g.ms.drop 0) := by
                      unfold groupE; rw [if_neg (by rw [Hnm.out]; decide), if_neg (by rw [Hno.out]; decide)]; rfl
                    by_cases hlt3 : m < N
                    · have hltm : (m : Int) < N := by omega
                      have hm0 : (0 : Int) ≤ (m : Int) := by omega
                      have hmC : (m : Int) ≤ xc := by have := HN.out; omega
                      have hm1 : IntKind.i64.wrap ((m : Int) + 1) = m + 1 := IntWalk.i64_in _ (by have := HN.out; have := Hbnd.out.1; omega)
                      obtain ⟨y, hy⟩ : ∃ y, g.ms[m]? = some y := ⟨_, List.getElem?_eq_getElem (by rw [← HN.out]; exact hlt3)⟩
                      have hmr := Hms.out.same (Hkwj.out.more (Hk5.out.more hkm))
                      rw [← HN.out] at hmr
                      obtain ⟨bb, oo, hxA, -⟩ := rdSt_cell hmr hy
                      subst hxA
                      have q0 : ∀ w', Keeps nowhere wr w' → w'.cell? ⟨p, 0, none⟩ = some (.slice Au i cu) ∧ w'.cell? ⟨q, 1, none⟩ = some (.slice (some ⟨bb, oo, none⟩) N xc) ∧ w'.cell? ⟨bb, oo + m, none⟩ = some (.string (strOf y)) := fun w' e => by
                        have hz := Cells5.out w' (hkm.more e)
                        obtain ⟨b2, o2, hA, hc⟩ := rdSt_cell (hmr.same e) hy
                        injection hA with hA
                        injection hA with h1 h2
                        subst h1 h2
                        exact ⟨hz.2.2.1, hz.2.1, hc⟩
                      have qa : ∀ w', Keeps nowhere wr.drew w' → w'.cell? ⟨p, 0, none⟩ = some (.slice Au i cu) := fun w' e => (q0 w' ((Keeps.refl _ _).drew.more e)).1
                      have qb : ∀ w', Keeps nowhere wr.drew w' → w'.cell? ⟨q, 1, none⟩ = some (.slice (some ⟨bb, oo, none⟩) N xc) := fun w' e => (q0 w' ((Keeps.refl _ _).drew.more e)).2.1
                      have qc : ∀ w', Keeps nowhere wr.drew w' → w'.cell? ⟨bb, oo + m, none⟩ = some (.string (strOf y)) := fun w' e => (q0 w' ((Keeps.refl _ _).drew.more e)).2.2
                      have ham := among_any _ _ us y wr.drew (Hu.out.same (hkwm.drew)) (by rw [← Hn1.out]; omega)
                      obtain ⟨b1, hb1'⟩ : ∃ b, b = us.contains y := ⟨_, rfl⟩
                      rw [← hb1'] at ham
                      rw [membersE_step hy, ← hb1'] at hme
                      have Hkm := Lib.hid hkm
                      have Hme := Lib.hid hme
                      have Hkwm := Lib.hid hkwm
                      have HgE := Lib.hid hgE
                      have Hy := Lib.hid hy
                      have Hmr := Lib.hid hmr
                      have Q0 := Lib.hid q0
                      have Ham := Lib.hid ham
                      have Hb1' := Lib.hid hb1'
                      clear hkm hme hkwm hgE hy hmr q0 ham hb1'
                      go_wp2_with fail
                      refine wp_region_script [0, 1, 2, 3, 4, 5, 6, 8] [1, 3, 6] [.ps [0, 2, 4], .fs [1, 3], .ps [5], .fs [6], .es [7] false, .ps [8]] (Keeps nowhere wr.drew) rfl (by kernel_rfl) ?_
                      refine wpS_ps rfl fun K hK => ?_
                      simp only [List.map_cons, List.map_nil, Option.getD_some, List.getElem?_toArray, List.getElem?_cons_zero, List.getElem?_cons_succ]
                      iterate 3 (first | (apply quietO_cons _ rfl; (intro w' _; go_simp; rfl)) | apply quietO_skip rfl)
                      refine hK _ ?_
                      clear hK K
                      simp only [Act.put, List.setIfInBounds_toArray, List.set_cons_zero, List.set_cons_succ]
                      refine wpS_fs rfl (Keeps.refl _ _) fun K hK => ?_
                      simp only [List.map_cons, List.map_nil, Option.getD_some, List.getElem?_toArray, List.getElem?_cons_zero, List.getElem?_cons_succ]
                      iterate 2 (first | (apply quietO_cons _ rfl; (intro w' hs; have c_0 := qa w' hs; have c_1 := qb w' hs; go_simp; rfl)) | apply quietO_skip rfl)
                      refine hK _ ?_
                      clear hK K
                      simp only [Act.put, List.setIfInBounds_toArray, List.set_cons_zero, List.set_cons_succ]
                      refine wpS_ps rfl fun K hK => ?_
                      simp only [List.map_cons, List.map_nil, Option.getD_some, List.getElem?_toArray, List.getElem?_cons_zero, List.getElem?_cons_succ]
                      iterate 1 (first | (apply quietO_cons _ rfl; (intro w' _; go_simp; rfl)) | apply quietO_skip rfl)
                      refine hK _ ?_
                      clear hK K
                      simp only [Act.put, List.setIfInBounds_toArray, List.set_cons_zero, List.set_cons_succ]
                      refine wpS_fs rfl (Keeps.refl _ _) fun K hK => ?_
                      simp only [List.map_cons, List.map_nil, Option.getD_some, List.getElem?_toArray, List.getElem?_cons_zero, List.getElem?_cons_succ]
                      iterate 1 (first | (apply quietO_cons _ rfl; (intro w' hs; have c_0 := qc w' hs; go_simp; rfl)) | apply quietO_skip rfl)
                      refine hK _ ?_
                      clear hK K
                      simp only [Act.put, List.setIfInBounds_toArray, List.set_cons_zero, List.set_cons_succ]
                      clear qa qb qc
                      refine wpS_es rfl fun K hK => ?_
                      have HK := Lib.hid hK
                      clear hK
                      simp only [List.map_cons, List.map_nil, Option.getD_some, List.getElem?_toArray, List.getElem?_cons_zero, List.getElem?_cons_succ]
                      go_wp2_with fail
                      refine Ham.out.mono ?_
                      rintro e w7 ⟨rfl, hk7⟩
                      have hk07 := (Keeps.refl nowhere wr).drew.more hk7
                      clear hk7
                      have Hk07 := Lib.hid hk07
                      clear hk07
                      go_wp2_with fail
                      refine HK.out _ _ (fun h => by cases h) ?_
                      clear HK K
                      refine wpS_ps rfl fun K hK => ?_
                      simp only [List.map_cons, List.map_nil, Option.getD_some, List.getElem?_toArray, List.getElem?_cons_zero, List.getElem?_cons_succ]
                      iterate 1 (first | (apply quietO_cons _ rfl; (intro w' _; go_simp; rfl)) | apply quietO_skip rfl)
                      refine hK _ ?_
                      clear hK K
                      simp only [Act.put, List.setIfInBounds_toArray, List.set_cons_zero, List.set_cons_succ]
                      refine wpS_nil ?_
                      cases b1 with
                      | false =>
                        have hx2 : newE us gs = 6 := by
                          have h1 := Hme.out
                          rw [if_pos rfl] at h1
                          rw [Hge.out, HgE.out, h1]; rfl
                        have Hx2 := Lib.hid hx2
                        clear hx2
                        go_wp2_with fail
                        go_ret
                        exact CkP.is Hx2.out (Hkwm.out.more Hk07.out)
                      | true =>
                        have hme2 := Hme.out
                        rw [if_neg (by decide)] at hme2
                        obtain ⟨b2, hb2⟩ : ∃ b, b = (g.ms.take m).contains y := ⟨_, rfl⟩
                        rw [← hb2] at hme2
                        have qa : ∀ w', Keeps nowhere w7.drew w' → w'.cell? ⟨q, 1, none⟩ = some (.slice (some ⟨bb, oo, none⟩) N xc) := fun w' e => (Q0.out w' (Hk07.out.drew.more e)).2.1
                        have qc : ∀ w', Keeps nowhere w7.drew w' → w'.cell? ⟨bb, oo + m, none⟩ = some (.string (strOf y)) := fun w' e => (Q0.out w' (Hk07.out.drew.more e)).2.2
                        have htk := (Hmr.out.same Hk07.out.drew).take m (by rw [← HN.out]; omega)
                        have ham2 := among_any _ _ (g.ms.take m) y w7.drew htk (by rw [List.length_take]; have := Hbnd.out.1; omega)
                        rw [← hb2] at ham2
                        clear htk
                        have Hme2 := Lib.hid hme2
                        have Hb2 := Lib.hid hb2
                        have Ham2 := Lib.hid ham2
                        clear hme2 hb2 ham2
                        go_wp2_with fail
                        refine wp_region_script [0, 1, 2, 3, 4, 5, 6, 7, 8] [1, 5, 8] [.ps [0, 4, 2, 6], .fs [1, 5], .ps [3, 7], .fs [8], .es [9] false] (Keeps nowhere w7.drew) rfl (by kernel_rfl) ?_
                        refine wpS_ps rfl fun K hK => ?_
                        simp only [List.map_cons, List.map_nil, Option.getD_some, List.getElem?_toArray, List.getElem?_cons_zero, List.getElem?_cons_succ]
                        iterate 4 (first | (apply quietO_cons _ rfl; (intro w' _; go_simp; rfl)) | apply quietO_skip rfl)
                        refine hK _ ?_
                        clear hK K
                        simp only [Act.put, List.setIfInBounds_toArray, List.set_cons_zero, List.set_cons_succ]
                        refine wpS_fs rfl (Keeps.refl _ _) fun K hK => ?_
                        simp only [List.map_cons, List.map_nil, Option.getD_some, List.getElem?_toArray, List.getElem?_cons_zero, List.getElem?_cons_succ]
                        iterate 2 (first | (apply quietO_cons _ rfl; (intro w' hs; have c_0 := qa w' hs; go_simp; rfl)) | apply quietO_skip rfl)
                        refine hK _ ?_
                        clear hK K
                        simp only [Act.put, List.setIfInBounds_toArray, List.set_cons_zero, List.set_cons_succ]
                        refine wpS_ps rfl fun K hK => ?_
                        simp only [List.map_cons, List.map_nil, Option.getD_some, List.getElem?_toArray, List.getElem?_cons_zero, List.getElem?_cons_succ]
                        iterate 2 (first | (apply quietO_cons _ rfl; (intro w' _; go_simp; rfl)) | apply quietO_skip rfl)
                        refine hK _ ?_
                        clear hK K
                        simp only [Act.put, List.setIfInBounds_toArray, List.set_cons_zero, List.set_cons_succ]
                        refine wpS_fs rfl (Keeps.refl _ _) fun K hK => ?_
                        simp only [List.map_cons, List.map_nil, Option.getD_some, List.getElem?_toArray, List.getElem?_cons_zero, List.getElem?_cons_succ]
                        iterate 1 (first | (apply quietO_cons _ rfl; (intro w' hs; have c_0 := qc w' hs; go_simp; rfl)) | apply quietO_skip rfl)
                        refine hK _ ?_
                        clear hK K
                        simp only [Act.put, List.setIfInBounds_toArray, List.set_cons_zero, List.set_cons_succ]
                        clear qa qc
                        refine wpS_es rfl fun K hK => ?_
                        have HK := Lib.hid hK
                        clear hK
                        simp only [List.map_cons, List.map_nil, Option.getD_some, List.getElem?_toArray, List.getElem?_cons_zero, List.getElem?_cons_succ]
                        go_wp2_with fail
                        refine Ham2.out.mono ?_
                        rintro e w8 ⟨rfl, hk8⟩
                        have hk08 := Hk07.out.drew.more hk8
                        clear hk8
                        have Hk08 := Lib.hid hk08
                        clear hk08
                        go_wp2_with fail
                        refine HK.out _ _ (fun h => by cases h) ?_
                        clear HK K
                        refine wpS_nil ?_
                        cases b2 with
                        | true =>
                          have hx2 : newE us gs = 7 := by
                            have h1 := Hme2.out
                            rw [if_pos rfl] at h1
                            rw [Hge.out, HgE.out, h1]; rfl
                          have Hx2 := Lib.hid hx2
                          clear hx2
                          go_wp2_with fail
                          go_ret
                          exact CkP.is Hx2.out (Hkwm.out.more Hk08.out)
                        | false =>
                          have hme3 := Hme2.out
                          rw [if_neg (by decide)] at hme3
                          have hk58 := Hkm.out.more Hk08.out
                          have Hme3 := Lib.hid hme3
                          have Hk58 := Lib.hid hk58
                          clear hme3 hk58
                          go_wp2_with fail
                          go_roundw
                          case rel => exact ⟨m + 1, by simp, by omega, Hk58.out, Hme3.out⟩
                          case measure => simp [intOf]; omega
                    · obtain rfl : m = N := by omega
                      have hmI : ¬ (m : Int) < m := by omega
                      have hg0 : groupE us (gs.take k) g = 0 := by rw [hgE, hme, HN.out, List.drop_length]; rfl
                      have hge2 : newE us gs = groupsE us (gs.take (k + 1)) (gs.drop (k + 1)) := by rw [Hge.out, hg0]; rfl
                      have hk1m := Hk15.out.more hkm
                      have Hkm := Lib.hid hkm
                      have Hme := Lib.hid hme
                      have HgE := Lib.hid hgE
                      have Hg0 := Lib.hid hg0
                      have Hge2 := Lib.hid hge2
                      have Hk1m := Lib.hid hk1m
                      clear hkm hme hgE hg0 hge2 hk1m
                      go_wp2_with fail
                      go_roundw
                      case rel => exact ⟨k + 1, by simp, by omega, Hk1m.out, Hge2.out⟩
                      case measure => simp [intOf]; omega
          · obtain rfl : j = n2 := by omega
            have hjI : ¬ (j : Int) < j := by omega
            have hx : newE us gs = 0 := by rw [hge, Hn2g.out, List.drop_length]; rfl
            have Hkj := Lib.hid hkj
            have Hge := Lib.hid hge
            have Hkwj := Lib.hid hkwj
            have Hx := Lib.hid hx
            clear hkj hge hkwj hx
            go_wp2_with fail
            go_ret
            exact CkP.is Hx.out Hkwj.out
end Go.Proofs.YtnlmdfbjmhcilaaDoor
/-
  law 15: text.
-/
namespace Go.Proofs.YtnlmdfbjmhcilaaDoor
open Go.RowKit Go.Proofs Go.Shelf
attribute [local go_sem] strOf_size strOf_get strOf_toList

theorem add_str (a b : List UInt8) (B : ByteArray) (hB : B = strOf b) (h : a.length + b.length ≤ 1000000000) (w : World) : (Op.stringOp .add (strOf a) B).run Tryd.prog w = .ok (.string (strOf (a ++ b))) w := by
  subst hB
  rw [run_string_add_sum w _ _ (by rw [strOf_size, strOf_size]; omega), strOf_append]
theorem add_str_l (a b : List UInt8) (A : ByteArray) (hA : A = strOf a) (h : a.length + b.length ≤ 1000000000) (w : World) : (Op.stringOp .add A (strOf b)).run Tryd.prog w = .ok (.string (strOf (a ++ b))) w := by
  subst hA
  rw [run_string_add_sum w _ _ (by rw [strOf_size, strOf_size]; omega), strOf_append]
theorem fm_step {α : Type} {l : List α} {i : Nat} {x : α} (hx : l[i]? = some x) (f : α → List UInt8) : (l.take (i + 1)).flatMap f = (l.take i).flatMap f ++ f x := by
  obtain ⟨hi, rfl⟩ := List.getElem?_eq_some_iff.1 hx
  rw [List.take_succ_eq_append_getElem hi, List.flatMap_append]; simp
theorem fm_le {α : Type} (l : List α) (i : Nat) (f : α → List UInt8) : ((l.take i).flatMap f).length ≤ (l.flatMap f).length := by
  conv => rhs; rw [← List.take_append_drop i l, List.flatMap_append]
  rw [List.length_append]; omega
abbrev lineU (u : List UInt8) : List UInt8 := wUser ++ 32 :: (u ++ [10])
abbrev memU (m : List UInt8) : List UInt8 := 32 :: m
def TextP (us : List (List UInt8)) (gs : List Grp) (w : World) : Ending → World → Prop := fun e w' => e = .returned (.string (strOf (textU us gs))) ∧ Keeps nowhere w w'
set_option maxRecDepth 20000 in
set_option maxHeartbeats 8000000 in
theorem text_any (vu vg : Value) (us : List (List UInt8)) (gs : List Grp) (w : World) (h : RU w vu vg us gs) (hl : us.length ≤ 1000000) (hl2 : gs.length ≤ 1000000)
    (hl3 : ∀ g ∈ gs, g.ms.length ≤ 1000000) (hlen : (textU us gs).length ≤ 1000000) :
    Calls Tryd.prog 24 #[.agg #[vu, vg]] w (TextP us gs w) := by
  obtain ⟨gu, gg, xs, hu, hg, he⟩ := h
  obtain ⟨Au, cu, rfl, -, -⟩ := rd_form hu
  obtain ⟨Ag, cg, rfl, -, -⟩ := rd_form hg
  obtain ⟨n1, hn1⟩ : ∃ n, n = us.length := ⟨_, rfl⟩
  obtain ⟨n2, hn2⟩ : ∃ n, n = xs.length := ⟨_, rfl⟩
  have hn2g : n2 = gs.length := by rw [hn2, he.1]
  rw [← hn1] at hu hl ⊢
  rw [← hn2] at hg ⊢
  rw [← hn2g] at hl2
  have hLU : (us.flatMap lineU).length ≤ 1000000 ∧ (us.flatMap lineU).length + (gs.flatMap textG).length ≤ 1000000 := by
    have : (textU us gs).length = (us.flatMap lineU).length + (gs.flatMap textG).length := by unfold textU; rw [List.length_append]
    omega
  obtain ⟨p, hp⟩ : ∃ p, p = w.heap.size := ⟨_, rfl⟩
  obtain ⟨w1, hw1⟩ : ∃ w1, w1 = w.alloc (.cells #[.slice Au n1 cu, .slice Ag n2 cg] 54) := ⟨_, rfl⟩
  have hk1 : Keeps nowhere w w1 := by rw [hw1]; exact (Keeps.refl nowhere w).alloc _
  have hb1 : Blk w1 p 54 #[.slice Au n1 cu, .slice Ag n2 cg] := by rw [hw1, hp]; exact Blk.new _ _ _
  have cells : ∀ wr, Keeps nowhere w1 wr → wr.cell? ⟨p, 0, none⟩ = some (.slice Au n1 cu) ∧ wr.cell? ⟨p, 1, none⟩ = some (.slice Ag n2 cg) := fun wr hk => by
    have := hb1.keep hk (fun h => h)
    exact ⟨by simpa using this.cell 0, by simpa using this.cell 1⟩
  have Hw1 := Lib.hid hw1
  have Hp := Lib.hid hp
  have Hk1 := Lib.hid hk1
  have Hb1 := Lib.hid hb1
  have Hu := Lib.hid hu
  have Hg := Lib.hid hg
  have He := Lib.hid he
  have Hn1 := Lib.hid hn1
  have Hn2 := Lib.hid hn2
  have Hn2g := Lib.hid hn2g
  have Cells := Lib.hid cells
  have Hl3 := Lib.hid hl3
  have Hlen := Lib.hid hlen
  have HLU := Lib.hid hLU
  clear hw1 hp hk1 hb1 hu hg he hn1 hn2 hn2g cells hl3 hlen hLU
  go_enter Tryd.func24, Tryd.ntmps24
  go_upto_region 1 with fail
  rw [← Hw1.out]
  simp only [← Hp.out]
  go_wp2_with fail
  go_loopw [3, 4] (fun sv iv wr => ∃ i : Nat, iv = .int .i64 i ∧ i ≤ n1 ∧ Keeps nowhere w1 wr ∧ sv = .string (strOf ((us.take i).flatMap lineU))) (fun _ iv _ => n1 - (intOf iv).toNat)
  case atStart => exact ⟨0, rfl, Nat.zero_le _, Keeps.refl _ _, rfl⟩
  case round =>
    obtain ⟨i, rfl, hi, hk, rfl⟩ := hrel
    obtain ⟨e0, e1⟩ := Cells.out wr hk
    have hkw := Hk1.out.more hk
    obtain ⟨cur, hcur⟩ : ∃ cur, cur = (us.take i).flatMap lineU := ⟨_, rfl⟩
    have hcl : cur.length ≤ 1000000 := by rw [hcur]; exact Nat.le_trans (fm_le us i lineU) HLU.out.1
    rw [← hcur]
    by_cases hlt : i < n1
    · have hltI : (i : Int) < n1 := by omega
      have hi0 : (0 : Int) ≤ (i : Int) := by omega
      have hi1 : IntKind.i64.wrap ((i : Int) + 1) = i + 1 := IntWalk.i64_in _ (by omega)
      obtain ⟨m, hm⟩ : ∃ m, us[i]? = some m := ⟨_, List.getElem?_eq_getElem (by rw [← Hn1.out]; exact hlt)⟩
      obtain ⟨bb, oo, rfl, d0⟩ := rdSt_cell (Hu.out.same hkw) hm
      have hst := fm_step hm lineU
      rw [← hcur] at hst
      have hml : m.length ≤ 1000000 := by
        have h1 := fm_le us (i + 1) lineU
        rw [hst] at h1
        have := HLU.out.1
        rw [List.length_append] at h1
        have h6 : (lineU m).length = m.length + 6 := by simp [lineU, wUser]
        omega
      have a1 := add_str cur [117, 115, 101, 114, 32] ⟨#[117, 115, 101, 114, 32]⟩ rfl (by simp; omega)
      have a2 := add_str (cur ++ [117, 115, 101, 114, 32]) m _ rfl (by simp; omega)
      have a3 := add_str (cur ++ [117, 115, 101, 114, 32] ++ m) [10] ⟨#[10]⟩ rfl (by simp; omega)
      have hfin : cur ++ [117, 115, 101, 114, 32] ++ m ++ [10] = (us.take (i + 1)).flatMap lineU := by rw [hst]; simp [lineU, wUser]
      rw [hfin] at a3
      obtain ⟨c1, hc1⟩ : ∃ c, c = cur ++ [117, 115, 101, 114, 32] := ⟨_, rfl⟩
      rw [← hc1] at a1 a2 a3
      obtain ⟨c2, hc2⟩ : ∃ c, c = c1 ++ m := ⟨_, rfl⟩
      rw [← hc2] at a2 a3
      have Hk := Lib.hid hk
      have Hkw := Lib.hid hkw
      have Hm := Lib.hid hm
      have Hst := Lib.hid hst
      have Hcur := Lib.hid hcur
      have Hcl := Lib.hid hcl
      have Hml := Lib.hid hml
      have Hfin := Lib.hid hfin
      have Hc1 := Lib.hid hc1
      have Hc2 := Lib.hid hc2
      clear hk hkw hm hst hcur hcl hml hfin hc1 hc2
      go_wp2_with fail
      go_roundw
      case rel => exact ⟨i + 1, by simp, by omega, Hk.out, rfl⟩
      case measure => simp [intOf]; omega
    · obtain rfl : i = n1 := by omega
      have hiI : ¬ (i : Int) < i := by omega
      have hcf : cur = us.flatMap lineU := by rw [hcur, Hn1.out, List.take_length]
      obtain ⟨fU, hfU⟩ : ∃ fU, fU = us.flatMap lineU := ⟨_, rfl⟩
      rw [← hfU] at hcf
      subst hcf
      have hLg : ∀ j, cur.length + ((gs.take j).flatMap textG).length ≤ 1000000 := fun j => by
        have h1 := fm_le gs j textG
        have h2 := HLU.out.2
        rw [← hfU] at h2
        omega
      have htx : textU us gs = cur ++ gs.flatMap textG := by rw [hfU]; rfl
      have Hk := Lib.hid hk
      have Hkw := Lib.hid hkw
      have Hcur := Lib.hid hcur
      have Hcl := Lib.hid hcl
      have HfU := Lib.hid hfU
      have HLg := Lib.hid hLg
      have Htx := Lib.hid htx
      clear hk hkw hcur hcl hfU hLg htx
      go_wp2_with fail
      go_loopw [3, 5] (fun sv jv wr => ∃ j : Nat, jv = .int .i64 j ∧ j ≤ n2 ∧ Keeps nowhere w1 wr ∧ sv = .string (strOf (cur ++ (gs.take j).flatMap textG))) (fun _ jv _ => n2 - (intOf jv).toNat)
      case atStart => exact ⟨0, rfl, Nat.zero_le _, Hk.out, by simp⟩
      case round =>
        obtain ⟨j, rfl, hj, hkj, rfl⟩ := hrel
        clear e0 e1
        obtain ⟨e0, e1⟩ := Cells.out wr hkj
        have hkwj := Hk1.out.more hkj
        have hcjl := HLg.out j
        obtain ⟨cj, hcj⟩ : ∃ cj, cj = cur ++ (gs.take j).flatMap textG := ⟨_, rfl⟩
        have hcjL : cj.length ≤ 1000000 := by rw [hcj, List.length_append]; exact hcjl
        rw [← hcj]
        by_cases hlt : j < n2
        · have hltI : (j : Int) < n2 := by omega
          have hj0 : (0 : Int) ≤ (j : Int) := by omega
          have hj1 : IntKind.i64.wrap ((j : Int) + 1) = j + 1 := IntWalk.i64_in _ (by omega)
          obtain ⟨x, hx⟩ : ∃ x, xs[j]? = some x := ⟨_, List.getElem?_eq_getElem (by rw [← Hn2.out]; exact hlt)⟩
          obtain ⟨g, hgj, hgx⟩ := He.out.2 j x hx
          obtain ⟨bg, og, rfl, d0, d1⟩ := rdG2_cell (Hg.out.same hkwj) hx
          obtain ⟨nm, xA, xn, xc⟩ := x
          obtain ⟨hnmE, km, hms⟩ := hgx
          simp only at d0 d1 hnmE
          subst hnmE
          unfold GrpV.sl at hms
          simp only at hms
          obtain ⟨hxn, hxc⟩ : xn = g.ms.length ∧ xn ≤ xc := by
            obtain ⟨A', c', hv, j1, j2⟩ := rd_form hms
            injection hv with _ i2 i3
            exact ⟨i2, by omega⟩
          subst hxn
          have hbnd := Hl3.out g (List.mem_of_getElem? hgj)
          have hst := fm_step hgj textG
          have hfin : cur ++ (gs.take (j + 1)).flatMap textG = cj ++ textG g := by rw [hst, hcj, List.append_assoc]
          have hl1 : cj.length + (textG g).length ≤ 1000000 := by
            have h1 := HLg.out (j + 1)
            rw [hst, List.length_append] at h1
            rw [hcj, List.length_append]; omega
          have htg : (textG g).length = 7 + g.nm.length + (g.ms.flatMap memU).length := by simp [textG, wGroup, memU]; omega
          have hnml : g.nm.length ≤ 1000000 := by omega
          obtain ⟨N, hN⟩ : ∃ N, N = g.ms.length := ⟨_, rfl⟩
          rw [← hN] at d1 hbnd
          have a1 := add_str cj [103, 114, 111, 117, 112, 32] ⟨#[103, 114, 111, 117, 112, 32]⟩ rfl (by simp; omega)
          have a2 := add_str (cj ++ [103, 114, 111, 117, 112, 32]) g.nm _ rfl (by simp; omega)
          obtain ⟨c1, hc1⟩ : ∃ c, c = cj ++ [103, 114, 111, 117, 112, 32] := ⟨_, rfl⟩
          rw [← hc1] at a1 a2
          obtain ⟨c2, hc2⟩ : ∃ c, c = c1 ++ g.nm := ⟨_, rfl⟩
          rw [← hc2] at a2
          have hc2l : c2.length + (g.ms.flatMap memU).length + 1 ≤ 1000000 := by
            rw [hc2, hc1, List.length_append, List.length_append]
            simp only [List.length_cons, List.length_nil]
            omega
          have hend : c2 ++ g.ms.flatMap memU ++ [10] = cur ++ (gs.take (j + 1)).flatMap textG := by rw [hfin, hc2, hc1]; simp [textG, wGroup, memU]
          have cellsG : ∀ wz, Keeps nowhere wr wz → wz.cell? ⟨p, 1, none⟩ = some (.slice (some ⟨bg, og, none⟩) n2 cg) ∧ wz.cell? ⟨bg, og + j * 2 + 1, none⟩ = some (.slice xA N xc) := fun wz hz => by
            refine ⟨(Cells.out wz (hkj.more hz)).2, ?_⟩
            obtain ⟨b2, o2, hA, -, hc⟩ := rdG2_cell (Hg.out.same (hkwj.more hz)) hx
            injection hA with hA
            injection hA with h1 h2
            subst h1 h2
            rw [hc, hN]
          have Hkj := Lib.hid hkj
          have Hkwj := Lib.hid hkwj
          have Hcjl := Lib.hid hcjl
          have Hcj := Lib.hid hcj
          have HcjL := Lib.hid hcjL
          have Hx := Lib.hid hx
          have Hgj := Lib.hid hgj
          have Hms := Lib.hid hms
          have Hbnd := Lib.hid hbnd
          have Hst := Lib.hid hst
          have Hfin := Lib.hid hfin
          have Hl1 := Lib.hid hl1
          have Htg := Lib.hid htg
          have Hnml := Lib.hid hnml
          have HN := Lib.hid hN
          have Hc1 := Lib.hid hc1
          have Hc2 := Lib.hid hc2
          have Hc2l := Lib.hid hc2l
          have Hend := Lib.hid hend
          have CellsG := Lib.hid cellsG
          clear hkj hkwj hcjl hcj hcjL hx hgj hms hbnd hst hfin hl1 htg hnml hN hc1 hc2 hc2l hend cellsG
          go_wp2_with fail
          clear a1 a2 d0 d1 e0 e1
          go_loopw [3, 6] (fun sv kv wz => ∃ k : Nat, kv = .int .i64 k ∧ k ≤ N ∧ Keeps nowhere wr wz ∧ sv = .string (strOf (c2 ++ (g.ms.take k).flatMap memU))) (fun _ kv _ => N - (intOf kv).toNat)
          case atStart => exact ⟨0, rfl, Nat.zero_le _, Keeps.refl _ _, by simp⟩
          case round =>
            rename_i W0
            obtain ⟨k, rfl, hkN, hkz, rfl⟩ := hrel
            obtain ⟨d1, d2⟩ := CellsG.out wr hkz
            obtain ⟨ck, hck⟩ : ∃ ck, ck = c2 ++ (g.ms.take k).flatMap memU := ⟨_, rfl⟩
            have hckL : ck.length ≤ 1000000 := by
              have h1 := fm_le g.ms k memU
              have h2 := Hc2l.out
              rw [hck, List.length_append]; omega
            rw [← hck]
            by_cases hlt2 : k < N
            · have hltk : (k : Int) < N := by omega
              have hk0 : (0 : Int) ≤ (k : Int) := by omega
              have hk1 : IntKind.i64.wrap ((k : Int) + 1) = k + 1 := IntWalk.i64_in _ (by have := Hbnd.out; omega)
              obtain ⟨y, hy⟩ : ∃ y, g.ms[k]? = some y := ⟨_, List.getElem?_eq_getElem (by rw [← HN.out]; exact hlt2)⟩
              obtain ⟨bm, om, hxA, d3⟩ := rdSt_cell ((Hms.out.same (Hkwj.out.more hkz))) hy
              subst hxA
              have hst2 := fm_step hy memU
              have hyl : ck.length + y.length + 1 ≤ 1000000 := by
                have h1 := fm_le g.ms (k + 1) memU
                rw [hst2, List.length_append] at h1
                have h2 := Hc2l.out
                rw [hck, List.length_append]
                have h6 : (memU y).length = y.length + 1 := by simp [memU]
                omega
              have a1 := add_str ck [32] ⟨#[32]⟩ rfl (by simp; omega)
              have a2 := add_str (ck ++ [32]) y _ rfl (by simp; omega)
              have hfin2 : ck ++ [32] ++ y = c2 ++ (g.ms.take (k + 1)).flatMap memU := by rw [hst2, hck]; simp [memU]
              rw [hfin2] at a2
              obtain ⟨c3, hc3⟩ : ∃ c, c = ck ++ [32] := ⟨_, rfl⟩
              rw [← hc3] at a1 a2
              have Hkz := Lib.hid hkz
              have Hck := Lib.hid hck
              have HckL := Lib.hid hckL
              have Hy := Lib.hid hy
              have Hst2 := Lib.hid hst2
              have Hyl := Lib.hid hyl
              have Hfin2 := Lib.hid hfin2
              have Hc3 := Lib.hid hc3
              clear hkz hck hckL hy hst2 hyl hfin2 hc3
              go_wp2_with fail
              go_roundw
              case rel => exact ⟨k + 1, by simp, by omega, Hkz.out, rfl⟩
              case measure => simp [intOf]; omega
            · obtain rfl : k = N := by omega
              have hkI : ¬ (k : Int) < k := by omega
              have hcke : ck = c2 ++ g.ms.flatMap memU := by rw [hck, HN.out, List.take_length]
              have a1 := add_str ck [10] ⟨#[10]⟩ rfl (by simp; omega)
              rw [hcke, Hend.out, ← hcke] at a1
              have hkz2 := Hkj.out.more hkz
              have Hkz := Lib.hid hkz
              have Hck := Lib.hid hck
              have HckL := Lib.hid hckL
              have Hcke := Lib.hid hcke
              have Hkz2 := Lib.hid hkz2
              clear hkz hck hckL hcke hkz2
              go_wp2_with fail
              go_roundw
              case rel => exact ⟨j + 1, by simp, by omega, Hkz2.out, rfl⟩
              case measure => simp [intOf]; omega
        · obtain rfl : j = n2 := by omega
          have hjI : ¬ (j : Int) < j := by omega
          have hce : cj = textU us gs := by rw [hcj, Hn2g.out, List.take_length, Htx.out]
          have Hkj := Lib.hid hkj
          have Hkwj := Lib.hid hkwj
          have Hcjl := Lib.hid hcjl
          have Hcj := Lib.hid hcj
          have HcjL := Lib.hid hcjL
          have Hce := Lib.hid hce
          clear hkj hkwj hcjl hcj hcjL hce
          go_wp2_with fail
          go_ret
          exact ⟨by rw [← Hce.out]; rfl, Hkwj.out⟩
end Go.Proofs.YtnlmdfbjmhcilaaDoor
/-
  user: Table.Text.
-/
namespace Go.Proofs.YtnlmdfbjmhcilaaDoor
open Go.RowKit Go.Proofs Go.Shelf
attribute [local go_sem] strOf_size strOf_get strOf_toList

theorem bldX : Go.Proofs.Builder.Extra Tryd.prog stringP_ren := { sizeBuilder := by kernel_rfl, liesBuilder := by kernel_rfl, t5 := Tryd.underlying5, a5 := Tryd.isAgg5, z5 := Tryd.sizeOf5, v5 := Tryd.zeroValue5, infoByte := by kernel_rfl, cellsByte := by kernel_rfl, sizeByte := by kernel_rfl, neB5 := by decide }
theorem bldXJ : Go.Proofs.Builder.Extra Tryd.prog joinP_ren := { sizeBuilder := by kernel_rfl, liesBuilder := by kernel_rfl, t5 := Tryd.underlying5, a5 := Tryd.isAgg5, z5 := Tryd.sizeOf5, v5 := Tryd.zeroValue5, infoByte := by kernel_rfl, cellsByte := by kernel_rfl, sizeByte := by kernel_rfl, neB5 := by decide }
theorem byteCells_bv (L : List UInt8) : Lib.byteCells L = L.map bv := by
  unfold Lib.byteCells
  rfl
theorem bld_string (b : Nat) (L : List UInt8) (w : World) (h : SBd w b L) : Calls Tryd.prog 53 #[.pointer (some ⟨b, 0, none⟩)] w fun e w' => e = .returned (.string (strOf L)) ∧ Keeps (Up b) w w' := by
  have hlt := h.lt
  obtain ⟨p, v, hp, hb, ho, ha⟩ := h
  have hbv : v.ownBlock ≠ some b := own_blk_ne ho hb (by decide)
  have hat : Lib.BuilderAt 98 5 b b p (Lib.byteCells L) w := ⟨Nat.le_refl _, v, hb, by rw [byteCells_bv, List.length_map]; exact ho.base ha, hbv⟩
  have hib : Lib.IsBuilder 98 5 b b (Lib.byteCells L) w := by
    rcases hp with rfl | rfl
    · exact .inl hat
    · exact .inr hat
  refine (Any.Builder_String_any stringP bldX b b L w hib (by omega)).mono fun e w' ⟨he, hw⟩ => ⟨he, ?_⟩
  exact ⟨hw.os, hw.tape, hw.output, hw.size, fun k hk hs => hw.block k (by unfold Up at hs; omega)⟩
theorem glue_inter : ∀ L : List (List UInt8), ([32] : List UInt8).intercalate L = glue L
  | [] => rfl
  | [x] => by simp [glue, List.intercalate]
  | x :: y :: l => by
    have ih := glue_inter (y :: l)
    rw [glue, ← ih]
    simp [List.intercalate]
theorem join_any (A : Addr) (bk o n c : Nat) (g : Option Nat) (L : List (List UInt8)) (hA : A = ⟨bk, o, none⟩) (w : World) (hr : recStr.Rd w (.slice (some A) n c) g L) (hn : n = L.length) (hp : 0 < n) (hl : (glue L).length ≤ 1000000) (hn2 : n ≤ 1000000) :
    Calls Tryd.prog 52 #[.slice (some A) n c, .string ⟨#[32]⟩] w fun e w' => e = .returned (.string (strOf (glue L))) ∧ Keeps nowhere w w' := by
  have h1 : ∀ (j : Nat) x, (L.map strOf)[j]? = some x → w.cell? ⟨bk, o + j, none⟩ = some (.string x) := fun j x hx => by
    rw [List.getElem?_map] at hx
    obtain ⟨y, hy, rfl⟩ := Option.map_eq_some_iff.1 hx
    obtain ⟨b2, o2, hA2, hc⟩ := rdSt_cell hr hy
    rw [hA] at hA2
    injection hA2 with hA2
    injection hA2 with e1 e2
    subst e1 e2
    exact hc
  have h2 : bk < w.heap.size := by
    obtain ⟨A', c', hv, -, -, hu, h3, -⟩ := hr
    obtain ⟨b2, o2, hA2, hg, -⟩ := h3 (by omega)
    injection hv with hv _ _
    rw [hA2, hA] at hv
    injection hv with hv
    injection hv with e1 e2
    rw [e1]; exact hu b2 hg
  have hcap : n ≤ c := by
    obtain ⟨A', c', hv, h1, -⟩ := hr
    injection hv with _ _ e3
    omega
  have hj : Lib.join ((L.map strOf).map (·.data.toList)) (⟨#[32]⟩ : ByteArray).data.toList = glue L := by
    rw [List.map_map, show ((fun x : ByteArray => x.data.toList) ∘ strOf) = id from by funext x; simp [strOf], List.map_id]
    show [32].intercalate L = glue L
    exact glue_inter L
  have h := Any.strings_Join joinP bldXJ bk o c (L.map strOf) ⟨#[32]⟩ w h1 h2 (by rw [List.length_map]; omega) (by rw [List.length_map]; omega) (by rw [hj]; omega)
  rw [hj, List.length_map, ← hn] at h
  rw [hA]
  exact h.mono fun e w' ⟨he, hw⟩ => ⟨he, Below.keeps hw⟩
end Go.Proofs.YtnlmdfbjmhcilaaDoor
/-
  user: Table.Text.
-/
namespace Go.Proofs.YtnlmdfbjmhcilaaDoor
open Go.RowKit Go.Proofs Go.Shelf
attribute [local go_sem] strOf_size strOf_get strOf_toList

theorem glue_text (g : Grp) : glue (wGroup :: g.nm :: g.ms) ++ [10] = textG g := by
  rw [glue_more]; simp [textG]
def UTextP (us : List (List UInt8)) (gs : List Grp) (w : World) : Ending → World → Prop := fun e w' => e = .returned (.string (strOf (textU us gs))) ∧ Keeps nowhere w w'
theorem up_new {w w1 w' : World} {b : Nat} (h : Keeps nowhere w w1) (hk : Keeps (Up b) w1 w') (hb : w.heap.size ≤ b) : Keeps nowhere w w' := h.trans hk fun k hk e => by unfold Up at e; omega
set_option maxRecDepth 20000 in
set_option maxHeartbeats 8000000 in
theorem utext_any (F : Nat → Prop) (w : World) (p : Nat) (us : List (List UInt8)) (gs : List Grp) (h : UT F w p us gs) (hl : us.length ≤ 1000000) (hl2 : gs.length ≤ 1000000)
    (hl3 : ∀ g ∈ gs, g.ms.length ≤ 900000) (hlen : (textU us gs).length ≤ 1000000) :
    Calls Tryd.prog 23 #[.pointer (some ⟨p, 0, none⟩)] w (UTextP us gs w) := by
  obtain ⟨v1, v2, xs, hb, hu, hg, he, -⟩ := h
  have he2 : Each (GRd w) xs gs := he.imp fun _ _ hh => hh.rd
  obtain ⟨Au, cu, rfl, -⟩ := hu.form
  obtain ⟨Ag, cg, rfl, -⟩ := hg.form
  have hu2 := hu.rd
  have hg2 := hg.rd
  obtain ⟨n1, hn1⟩ : ∃ n, n = us.length := ⟨_, rfl⟩
  obtain ⟨n2, hn2⟩ : ∃ n, n = xs.length := ⟨_, rfl⟩
  have hn2g : n2 = gs.length := by rw [hn2, he.1]
  clear hu hg he
  rw [← hn1] at hu2 hl hb
  rw [← hn2] at hg2 hb
  rw [← hn2g] at hl2
  have hLU : (us.flatMap lineU).length ≤ 1000000 ∧ (us.flatMap lineU).length + (gs.flatMap textG).length ≤ 1000000 := by
    have : (textU us gs).length = (us.flatMap lineU).length + (gs.flatMap textG).length := by unfold textU; rw [List.length_append]
    omega
  obtain ⟨q, hq⟩ : ∃ q, q = w.heap.size := ⟨_, rfl⟩
  obtain ⟨w1, hw1⟩ : ∃ w1, w1 = w.alloc (.cells #[.pointer none, .slice none 0 0] 98) := ⟨_, rfl⟩
  have hk1 : Keeps nowhere w w1 := by rw [hw1]; exact (Keeps.refl nowhere w).alloc _
  have hs1 : SBd w1 q [] := by rw [hw1, hq]; exact sbd_new w
  have hqw : w.heap.size ≤ q := by omega
  have cells : ∀ wr, Keeps nowhere w wr → wr.cell? ⟨p, 0, none⟩ = some (.slice Au n1 cu) ∧ wr.cell? ⟨p, 1, none⟩ = some (.slice Ag n2 cg) := fun wr hk => by
    have := hb.keep hk (fun h => h)
    exact ⟨by simpa using this.cell 0, by simpa using this.cell 1⟩
  have e0 := (cells w1 hk1).1
  have e1 := (cells w1 hk1).2
  have Hw1 := Lib.hid hw1
  have Hq := Lib.hid hq
  have Hk1 := Lib.hid hk1
  have Hs1 := Lib.hid hs1
  have Hb := Lib.hid hb
  have Hu2 := Lib.hid hu2
  have Hg2 := Lib.hid hg2
  have He2 := Lib.hid he2
  have Hn1 := Lib.hid hn1
  have Hn2 := Lib.hid hn2
  have Hn2g := Lib.hid hn2g
  have Cells := Lib.hid cells
  have Hl3 := Lib.hid hl3
  have Hlen := Lib.hid hlen
  have HLU := Lib.hid hLU
  clear hw1 hq hk1 hs1 hb hu2 hg2 he2 hn1 hn2 hn2g cells hl3 hlen hLU
  go_enter Tryd.func23, Tryd.ntmps23
  go_upto_region 2 with fail
  rw [← Hw1.out]
  simp only [← Hq.out]
  go_wp2_with fail
  go_loopw [13] (fun iv wr => ∃ i : Nat, iv = .int .i64 i ∧ i ≤ n1 ∧ Keeps (Up q) w1 wr ∧ SBd wr q ((us.take i).flatMap lineU)) (fun iv _ => n1 - (intOf iv).toNat)
  case atStart => exact ⟨0, rfl, Nat.zero_le _, Keeps.refl _ _, by simpa using Hs1.out⟩
  case round =>
    obtain ⟨i, rfl, hi, hk, hsb⟩ := hrel
    clear e0 e1
    have hkw := up_new Hk1.out hk hqw
    obtain ⟨e0, e1⟩ := Cells.out wr hkw
    obtain ⟨cur, hcur⟩ : ∃ cur, cur = (us.take i).flatMap lineU := ⟨_, rfl⟩
    have hcl : cur.length ≤ 1000000 := by rw [hcur]; exact Nat.le_trans (fm_le us i lineU) HLU.out.1
    rw [← hcur] at hsb
    by_cases hlt : i < n1
    · have hltI : (i : Int) < n1 := by omega
      have hi0 : (0 : Int) ≤ (i : Int) := by omega
      have hi1 : IntKind.i64.wrap ((i : Int) + 1) = i + 1 := IntWalk.i64_in _ (by omega)
      obtain ⟨m, hm⟩ : ∃ m, us[i]? = some m := ⟨_, List.getElem?_eq_getElem (by rw [← Hn1.out]; exact hlt)⟩
      obtain ⟨bb, oo, rfl, d0⟩ := rdSt_cell (Hu2.out.same hkw) hm
      have hst := fm_step hm lineU
      rw [← hcur] at hst
      have hml : m.length ≤ 1000000 := by
        have h1 := fm_le us (i + 1) lineU
        rw [hst] at h1
        have := HLU.out.1
        rw [List.length_append] at h1
        have h6 : (lineU m).length = m.length + 6 := by simp [lineU, wUser]
        omega
      have a1 := add_str_l [117, 115, 101, 114, 32] m ⟨#[117, 115, 101, 114, 32]⟩ rfl (by simp; omega)
      have a2 := add_str ([117, 115, 101, 114, 32] ++ m) [10] ⟨#[10]⟩ rfl (by simp; omega)
      have hfin : [117, 115, 101, 114, 32] ++ m ++ [10] = lineU m := by simp [lineU, wUser]
      rw [hfin] at a2
      obtain ⟨c1, hc1⟩ : ∃ c, c = [117, 115, 101, 114, 32] ++ m := ⟨_, rfl⟩
      rw [← hc1] at a1 a2
      have hwr := bld_write q cur (lineU m) wr hsb (by have : (lineU m).length = m.length + 6 := by simp [lineU, wUser]
                                                       omega)
      unfold WriteP at hwr
      rw [← hst] at hwr
      obtain ⟨lm, hlm⟩ : ∃ lm, lm = lineU m := ⟨_, rfl⟩
      rw [← hlm] at a2 hwr
      have Hk := Lib.hid hk
      have Hkw := Lib.hid hkw
      have Hm := Lib.hid hm
      have Hst := Lib.hid hst
      have Hcur := Lib.hid hcur
      have Hcl := Lib.hid hcl
      have Hml := Lib.hid hml
      have Hfin := Lib.hid hfin
      have Hc1 := Lib.hid hc1
      have Hsb := Lib.hid hsb
      have Hwr := Lib.hid hwr
      have Hlm := Lib.hid hlm
      clear hk hkw hm hst hcur hcl hml hfin hc1 hsb hwr hlm
      go_wp2_with fail
      refine Hwr.out.mono ?_
      rintro e w5 ⟨⟨n5, rfl⟩, hsb5, hk5⟩
      have hk15 := Hk.out.trans hk5 (fun _ _ h => h)
      clear hk5
      have Hsb5 := Lib.hid hsb5
      have Hk15 := Lib.hid hk15
      clear hsb5 hk15
      go_wp2_with fail
      go_roundw
      case rel => exact ⟨i + 1, by simp, by omega, Hk15.out, Hsb5.out⟩
      case measure => simp [intOf]; omega
    · obtain rfl : i = n1 := by omega
      have hiI : ¬ (i : Int) < i := by omega
      have hcf : cur = us.flatMap lineU := by rw [hcur, Hn1.out, List.take_length]
      obtain ⟨fU, hfU⟩ : ∃ fU, fU = us.flatMap lineU := ⟨_, rfl⟩
      rw [← hfU] at hcf
      subst hcf
      have hLg : ∀ j, cur.length + ((gs.take j).flatMap textG).length ≤ 1000000 := fun j => by
        have h1 := fm_le gs j textG
        have h2 := HLU.out.2
        rw [← hfU] at h2
        omega
      have htx : textU us gs = cur ++ gs.flatMap textG := by rw [hfU]; rfl
      have Hk := Lib.hid hk
      have Hkw := Lib.hid hkw
      have Hcur := Lib.hid hcur
      have Hcl := Lib.hid hcl
      have HfU := Lib.hid hfU
      have HLg := Lib.hid hLg
      have Htx := Lib.hid htx
      have Hsb := Lib.hid hsb
      clear hk hkw hcur hcl hfU hLg htx hsb
      go_wp2_with fail
      go_loopw [27] (fun jv wr => ∃ j : Nat, jv = .int .i64 j ∧ j ≤ n2 ∧ Keeps (Up q) w1 wr ∧ SBd wr q (cur ++ (gs.take j).flatMap textG)) (fun jv _ => n2 - (intOf jv).toNat)
      case atStart => exact ⟨0, rfl, Nat.zero_le _, Hk.out, by simpa using Hsb.out⟩
      case round =>
        obtain ⟨j, rfl, hj, hkj, hsj⟩ := hrel
        clear e0 e1
        have hkwj := up_new Hk1.out hkj hqw
        have hcjl := HLg.out j
        obtain ⟨cj, hcj⟩ : ∃ cj, cj = cur ++ (gs.take j).flatMap textG := ⟨_, rfl⟩
        have hcjL : cj.length ≤ 1000000 := by rw [hcj, List.length_append]; exact hcjl
        rw [← hcj] at hsj
        by_cases hlt : j < n2
        · have hltI : (j : Int) < n2 := by omega
          have hj0 : (0 : Int) ≤ (j : Int) := by omega
          have hj1 : IntKind.i64.wrap ((j : Int) + 1) = j + 1 := IntWalk.i64_in _ (by omega)
          obtain ⟨x, hx⟩ : ∃ x, xs[j]? = some x := ⟨_, List.getElem?_eq_getElem (by rw [← Hn2.out]; exact hlt)⟩
          obtain ⟨g, hgj, hgx⟩ := He2.out.2 j x hx
          obtain ⟨bg, og, rfl, d0, d1⟩ := rdG_cell (Hg2.out.same hkwj) hx
          obtain ⟨nm, xA, xn, xc⟩ := x
          obtain ⟨hnmE, km, hms⟩ := hgx
          simp only at d0 d1 hnmE
          subst hnmE
          unfold GrpV.sl at hms
          simp only at hms
          obtain ⟨hxn, hxc⟩ : xn = g.ms.length ∧ xn ≤ xc := by
            obtain ⟨A', c', hv, j1, j2⟩ := rd_form hms
            injection hv with _ i2 i3
            exact ⟨i2, by omega⟩
          subst hxn
          have hbnd := Hl3.out g (List.mem_of_getElem? hgj)
          have hst := fm_step hgj textG
          have hfin : cur ++ (gs.take (j + 1)).flatMap textG = cj ++ textG g := by rw [hst, hcj, List.append_assoc]
          have hl1 : cj.length + (textG g).length ≤ 1000000 := by
            have h1 := HLg.out (j + 1)
            rw [hst, List.length_append] at h1
            rw [hcj, List.length_append]; omega
          obtain ⟨N, hN⟩ : ∃ N, N = g.ms.length := ⟨_, rfl⟩
          rw [← hN] at d1 hbnd hms
          -- the group's variable, the words
          obtain ⟨W1, hW1⟩ : ∃ W1, W1 = wr.alloc (.cells #[.string (strOf g.nm), .slice xA N xc] 79) := ⟨_, rfl⟩
          obtain ⟨pg, hpg⟩ : ∃ pg, pg = wr.heap.size := ⟨_, rfl⟩
          have hkW : Keeps nowhere wr W1 := by rw [hW1]; exact (Keeps.refl nowhere wr).alloc _
          have hbW : Blk W1 pg 79 #[.string (strOf g.nm), .slice xA N xc] := by rw [hW1, hpg]; exact Blk.new _ _ _
          have f0 := hbW.cell 0
          have f1 := hbW.cell 1
          simp at f0 f1
          have hka : Keeps nowhere W1 (W1.alloc (.cells #[.string ⟨#[103, 114, 111, 117, 112]⟩, .string (strOf g.nm)] 9)) := (Keeps.refl nowhere W1).alloc _
          have hrow : recStr.Row (W1.alloc (.cells #[.string ⟨#[103, 114, 111, 117, 112]⟩, .string (strOf g.nm)] 9)) (.slice (some ⟨W1.heap.size, 0, none⟩) 2 2) [wGroup, g.nm] :=
            RecT.Row.of_blk (R := recStr) (l := [wGroup, g.nm]) (rest := []) (Blk.new W1 _ _) rfl (by decide)
          have hrd := ((hms.same hkwj).same hkW).same hka
          have hlb : ([wGroup, g.nm] : List (List UInt8)).length + g.ms.length ≤ 100000000 := by simp; omega
          have f1' : (W1.alloc (.cells #[.string ⟨#[103, 114, 111, 117, 112]⟩, .string (strOf g.nm)] 9)).cell? ⟨pg, 1, none⟩ = some (.slice xA N xc) := (hka.cell (p := ⟨pg, 1, none⟩) hbW.lt (fun h => h)).trans f1
          have Hkj := Lib.hid hkj
          have Hkwj := Lib.hid hkwj
          have Hsj := Lib.hid hsj
          have Hcjl := Lib.hid hcjl
          have Hcj := Lib.hid hcj
          have HcjL := Lib.hid hcjL
          have Hx := Lib.hid hx
          have Hgj := Lib.hid hgj
          have Hms := Lib.hid hms
          have Hbnd := Lib.hid hbnd
          have Hst := Lib.hid hst
          have Hfin := Lib.hid hfin
          have Hl1 := Lib.hid hl1
          have HN := Lib.hid hN
          have HW1 := Lib.hid hW1
          have Hpg := Lib.hid hpg
          have HkW := Lib.hid hkW
          have HbW := Lib.hid hbW
          have Hka := Lib.hid hka
          have Hrow := Lib.hid hrow
          have Hrd := Lib.hid hrd
          have Hlb := Lib.hid hlb
          clear hkj hkwj hsj hcjl hcj hcjL hx hgj hms hbnd hst hfin hl1 hN hW1 hpg hkW hbW hka hrow hrd hlb
          go_upto_region 10 with fail
          rw [← HW1.out]
          simp only [← Hpg.out]
          go_wp2_with (at_builtin; go_must (refine RecT.wpList_append (R := recStr) Tryd.underlying47 infoStr rfl (by decide) rfl (.tmp 33) (.tmp 35) rfl _ [wGroup, g.nm] rfl Hrow.out _ _ g.ms rfl Hrd.out Hlb.out ?_))
          intro v6 W3 hrow3 hk3 hf3
          have hk13 : Keeps nowhere W1 W3 := Hka.out.trans hk3 (fun b hb e => by simp [Value.ownBlock] at e; omega)
          have hkw3 := Hkwj.out.more (HkW.out.more hk13)
          have hkj3 := Hkj.out.trans (T := fun _ => False) (HkW.out.more hk13) (fun _ _ h => h.elim)
          have hsj3 := Hsj.out.keep (HkW.out.more hk13) (fun _ _ h => h)
          obtain ⟨bj, cpj, restj, hv6, hblkj, -⟩ := (hrow3.blk).resolve_left (fun h => by have h2 := h.2; simp at h2)
          obtain ⟨NL, hNL⟩ : ∃ NL, NL = (wGroup :: g.nm :: g.ms).length := ⟨_, rfl⟩
          rw [← hNL] at hv6
          subst hv6
          have hglen : (glue (wGroup :: g.nm :: g.ms)).length ≤ 1000000 := by
            have h1 := glue_text g
            have h2 := congrArg List.length h1
            rw [List.length_append] at h2
            have := Hl1.out
            show (glue (wGroup :: g.nm :: g.ms)).length ≤ 1000000
            omega
          have hjoin := join_any ⟨bj, 0, none⟩ bj 0 NL cpj _ _ rfl W3 hrow3.rd hNL (by rw [hNL]; simp) hglen (by rw [hNL]; simp; have := Hbnd.out; have := HN.out; omega)
          obtain ⟨gl, hgl⟩ : ∃ gl, gl = glue (wGroup :: g.nm :: g.ms) := ⟨_, rfl⟩
          have hglt : gl ++ [10] = textG g := by rw [hgl]; exact glue_text g
          rw [← hgl] at hjoin hglen
          have a1 := add_str gl [10] ⟨#[10]⟩ rfl (by simp; omega)
          rw [hglt] at a1
          obtain ⟨tg, htg⟩ : ∃ tg, tg = textG g := ⟨_, rfl⟩
          rw [← htg] at a1
          clear hk3 hf3 hblkj hrow3
          have Hk13 := Lib.hid hk13
          have Hkw3 := Lib.hid hkw3
          have Hkj3 := Lib.hid hkj3
          have Hsj3 := Lib.hid hsj3
          have HNL := Lib.hid hNL
          have Hglen := Lib.hid hglen
          have Hjoin := Lib.hid hjoin
          have Hgl := Lib.hid hgl
          have Hglt := Lib.hid hglt
          have Htg := Lib.hid htg
          clear hk13 hkw3 hkj3 hsj3 hNL hglen hjoin hgl hglt htg
          go_wp2_with fail
          refine Hjoin.out.mono ?_
          rintro e W4 ⟨rfl, hk4⟩
          have hkj4 := Hkj3.out.trans (T := fun _ => False) hk4 (fun _ _ h => h.elim)
          have hsj4 := Hsj3.out.keep hk4 (fun _ _ h => h)
          have hwr := bld_write q cj tg W4 hsj4 (by rw [Htg.out]; have := Hl1.out; omega)
          unfold WriteP at hwr
          rw [Htg.out, ← Hfin.out, ← Htg.out] at hwr
          clear hk4
          have Hkj4 := Lib.hid hkj4
          have Hsj4 := Lib.hid hsj4
          have Hwr := Lib.hid hwr
          clear hkj4 hsj4 hwr
          go_wp2_with fail
          refine Hwr.out.mono ?_
          rintro e W5 ⟨⟨n5, rfl⟩, hsb5, hk5⟩
          have hk15 := Hkj4.out.trans hk5 (fun _ _ h => h)
          clear hk5
          have Hsb5 := Lib.hid hsb5
          have Hk15 := Lib.hid hk15
          clear hsb5 hk15
          go_wp2_with fail
          go_roundw
          case rel => exact ⟨j + 1, by simp, by omega, Hk15.out, Hsb5.out⟩
          case measure => simp [intOf]; omega
        · obtain rfl : j = n2 := by omega
          have hjI : ¬ (j : Int) < j := by omega
          have hce : cj = textU us gs := by rw [hcj, Hn2g.out, List.take_length, Htx.out]
          have hstr := bld_string q cj wr hsj
          have Hkj := Lib.hid hkj
          have Hkwj := Lib.hid hkwj
          have Hcjl := Lib.hid hcjl
          have Hcj := Lib.hid hcj
          have HcjL := Lib.hid hcjL
          have Hce := Lib.hid hce
          have Hsj := Lib.hid hsj
          have Hstr := Lib.hid hstr
          clear hkj hkwj hcjl hcj hcjL hce hsj hstr
          go_wp2_with fail
          refine Hstr.out.mono ?_
          rintro e w5 ⟨rfl, hk5⟩
          have hk05 := up_new Hkwj.out hk5 hqw
          clear hk5
          have Hk05 := Lib.hid hk05
          clear hk05
          go_wp2_with fail
          go_ret
          exact ⟨by rw [← Hce.out]; rfl, Hk05.out⟩
end Go.Proofs.YtnlmdfbjmhcilaaDoor
/-
  user: Groups at a table with one group of a user; slices.Sort of one string.
-/
namespace Go.Proofs.YtnlmdfbjmhcilaaDoor
open Go.RowKit Go.Proofs Go.Shelf
attribute [local go_sem] strOf_size strOf_get strOf_toList

def NilP (w : World) : Ending → World → Prop := fun e w' => e = .returned (.tuple #[]) ∧ Keeps nowhere w w'
set_option maxRecDepth 20000 in
set_option maxHeartbeats 1000000 in
theorem ins1_any (A : Option Addr) (c : Nat) (w : World) : Calls Tryd.prog 111 #[.slice A 1 c, .int .i64 0, .int .i64 1] w (NilP w) := by
  go_enter Tryd.func111, Tryd.ntmps111
  go_wp2_with fail
  go_loopw [6, 7] (fun iv jv wr => iv = .int .i64 1 ∧ Keeps nowhere w wr) (fun _ _ _ => 0)
  case atStart => exact ⟨rfl, Keeps.refl _ _⟩
  case round =>
    obtain ⟨rfl, hk⟩ := hrel
    have Hk := Lib.hid hk
    clear hk
    go_wp2_with fail
    refine bodyPost_end (results_none rfl _ _ _) rfl ?_
    exact ⟨rfl, Hk.out⟩
set_option maxRecDepth 20000 in
set_option maxHeartbeats 1000000 in
theorem pdq1_any (A : Option Addr) (c : Nat) (lim : Int) (w : World) : Calls Tryd.prog 97 #[.slice A 1 c, .int .i64 0, .int .i64 1, .int .i64 lim] w (NilP w) := by
  have hi := ins1_any A c w
  have Hi := Lib.hid hi
  clear hi
  go_enter Tryd.func97, Tryd.ntmps97
  go_wp2_with fail
  go_loopw [1, 2, 3, 8, 9] (fun av bv lv xv yv wr => av = .int .i64 0 ∧ bv = .int .i64 1 ∧ wr = w) (fun _ _ _ _ _ _ => 0)
  case atStart => exact ⟨rfl, rfl, rfl⟩
  case round =>
    obtain ⟨rfl, rfl, rfl⟩ := hrel
    go_wp2_with fail
    refine Hi.out.mono ?_
    rintro e w2 ⟨rfl, hk2⟩
    have Hk2 := Lib.hid hk2
    clear hk2
    go_wp2_with fail
    refine bodyPost_end (results_none rfl _ _ _) rfl ?_
    exact ⟨rfl, Hk2.out⟩
set_option maxRecDepth 200000 in
set_option maxHeartbeats 4000000 in
theorem len1_any (w : World) : Calls Tryd.prog 98 #[.int .u64 1] w fun e w' => (∃ n, e = .returned (.int .i64 n)) ∧ w' = w := by
  go_enter Tryd.func98, Tryd.ntmps98
  go_wp2
  go_ret
  exact ⟨⟨_, rfl⟩, rfl⟩
set_option maxRecDepth 20000 in
set_option maxHeartbeats 1000000 in
theorem sort1_any (A : Option Addr) (c : Nat) (w : World) : Calls Tryd.prog 69 #[.slice A 1 c] w (NilP w) := by
  have hi := fun lim w => pdq1_any A c lim w
  have Hi := Lib.hid hi
  clear hi
  go_enter Tryd.func69, Tryd.ntmps69
  go_wp2_with fail
  refine (len1_any w).mono ?_
  rintro e w1 ⟨⟨lim, rfl⟩, rfl⟩
  go_wp2_with fail
  refine (Hi.out _ _).mono ?_
  rintro e w2 ⟨rfl, hk2⟩
  have Hk2 := Lib.hid hk2
  clear hk2
  go_wp2_with fail
  refine bodyPost_end (results_none rfl _ _ _) rfl ?_
  exact ⟨rfl, Hk2.out⟩
theorem sclip1_any (A : Option Addr) (c : Nat) (hc : 1 ≤ c) (w : World) : Calls Tryd.prog 70 #[.slice A 1 c] w fun e w' => (∃ c', e = .returned (.slice A 1 c')) ∧ w' = w := by
  have h1 : (1 : Int) ≤ c := by omega
  go_enter Tryd.func70, Tryd.ntmps70
  go_wp2_with fail
  go_ret
  exact ⟨⟨_, rfl⟩, rfl⟩
def kU : List (List UInt8) := [[97], [98]]
def kG : List Grp := [⟨[103], [[98]]⟩]
def GroupsP (w : World) : Ending → World → Prop := fun e w' => (∃ A c, e = .returned (.slice A 1 c)) ∧ Keeps nowhere w w'
set_option maxRecDepth 20000 in
set_option maxHeartbeats 4000000 in
theorem groups_known (F : Nat → Prop) (w : World) (p : Nat) (h : UT F w p kU kG) : Calls Tryd.prog 40 #[.pointer (some ⟨p, 0, none⟩), .string ⟨#[98]⟩] w (GroupsP w) := by
  obtain ⟨v1, v2, xs, hb, -, hg, he, -⟩ := h
  obtain ⟨Ag, cg, rfl, -⟩ := hg.form
  have hlen : xs.length = 1 := he.1
  obtain ⟨x, rfl⟩ := List.length_eq_one_iff.1 hlen
  obtain ⟨g, hgk, hnm, hms, -⟩ := he.2 0 x rfl
  have hgk' : g = ⟨[103], [[98]]⟩ := by
    have : kG[0]? = some g := hgk
    injection this with this; exact this.symm
  subst hgk'
  obtain ⟨b, o, rfl, d0, d1⟩ := rdG_cell (i := 0) hg.rd rfl
  obtain ⟨nm, xA, xn, xc⟩ := x
  simp only at hnm d0 d1
  subst hnm
  have hrd := hms.rd
  have hxn : xn = 1 := by
    obtain ⟨A', c', hv, -⟩ := rd_form hrd
    injection hv with _ h2 _
  subst hxn
  have c1 := hb.cell 1
  simp at c1 d0 d1
  have hlt := hms.lt
  have hblt := hb.lt
  -- the group's variable
  obtain ⟨W1, hW1⟩ : ∃ W1, W1 = w.alloc (.cells #[.string (strOf [103]), .slice xA 1 xc] 79) := ⟨_, rfl⟩
  obtain ⟨pg, hpg⟩ : ∃ pg, pg = w.heap.size := ⟨_, rfl⟩
  have hkW : Keeps nowhere w W1 := by rw [hW1]; exact (Keeps.refl nowhere w).alloc _
  have hbW : Blk W1 pg 79 #[.string (strOf [103]), .slice xA 1 xc] := by rw [hW1, hpg]; exact Blk.new _ _ _
  have f0 := hbW.cell 0
  have f1 := hbW.cell 1
  simp at f0 f1
  have hcon : ∀ W, Keeps nowhere w W → Calls Tryd.prog 68 #[.slice xA 1 xc, .string ⟨#[98]⟩] W (RetBool true W) := fun W hW => by
    have := scontains_any _ _ _ [98] W (hrd.same hW) (by decide)
    exact this
  have HW1 := Lib.hid hW1
  have Hpg := Lib.hid hpg
  have HkW := Lib.hid hkW
  have HbW := Lib.hid hbW
  have Hrd := Lib.hid hrd
  have Hcon := Lib.hid hcon
  clear hW1 hpg hkW hbW hrd hcon
  have q0 : ((0 : Nat) : Int) = 0 := rfl
  go_enter Tryd.func40, Tryd.ntmps40
  go_wp2_with fail
  go_loopw [5, 13] (fun ov iv wr => Keeps nowhere w wr ∧ ((iv = .int .i64 0 ∧ ov = .slice none 0 0 ∧ wr = w) ∨ (iv = .int .i64 1 ∧ ∃ A c, ov = .slice A 1 c ∧ 1 ≤ c))) (fun _ iv _ => 1 - (intOf iv).toNat)
  case atStart => exact ⟨Keeps.refl _ _, .inl ⟨rfl, rfl, rfl⟩⟩
  case round =>
    obtain ⟨hk, ⟨rfl, rfl, rfl⟩ | ⟨rfl, A, c, rfl, hc1⟩⟩ := hrel
    · clear hk
      have hca := Hcon.out W1 HkW.out
      go_upto_region 5 with fail
      rw [← HW1.out]
      simp only [← Hpg.out]
      have Hca := Lib.hid hca
      clear hca
      go_wp2_with fail
      refine Hca.out.mono ?_
      rintro e w2 ⟨rfl, hk2⟩
      have hk02 := HkW.out.more hk2
      have g0 : w2.cell? ⟨pg, 0, none⟩ = some (.string (strOf [103])) := by simpa using (HbW.out.keep hk2 (fun h => h)).cell 0
      have hka : Keeps nowhere w2 (w2.alloc (.cells #[.string (strOf [103])] 9)) := (Keeps.refl nowhere w2).alloc _
      have hrow : recStr.Row (w2.alloc (.cells #[.string (strOf [103])] 9)) (.slice none 0 0) [] := RecT.Row.nil _ _
      have hrd1 := RecT.Rd.one recStr w2 [103]
      clear f0 f1 hk2
      have Hk02 := Lib.hid hk02
      have Hka := Lib.hid hka
      have Hrow := Lib.hid hrow
      have Hrd1 := Lib.hid hrd1
      clear hk02 hka hrow hrd1
      go_wp2_with (at_builtin; go_must (refine RecT.wpList_append (R := recStr) Tryd.underlying47 infoStr rfl (by decide) rfl (.tmp 21) (.tmp 24) rfl _ [] rfl Hrow.out _ _ [[103]] rfl Hrd1.out (by decide) ?_))
      intro v6 W3 hrow3 hk3 hf3
      obtain ⟨A, c, hv6, hc1, -⟩ := hrow3.form
      simp at hv6 hc1
      have hk03 : Keeps nowhere wr W3 := (Hk02.out.more Hka.out).trans hk3 (fun b hb e => by simp [Value.ownBlock] at e)
      subst hv6
      clear hrow3 hk3 hf3
      have Hk03 := Lib.hid hk03
      clear hk03
      go_wp2_with fail
      go_roundw
      case rel => exact ⟨Hk03.out, .inr ⟨rfl, A, c, rfl, hc1⟩⟩
      case measure => simp [intOf]
    · have hso := sort1_any A c wr
      have Hk := Lib.hid hk
      have Hso := Lib.hid hso
      clear hk hso
      go_wp2_with fail
      refine Hso.out.mono ?_
      rintro e w2 ⟨rfl, hk2⟩
      have hk02 := Hk.out.more hk2
      clear hk2
      have hcl := sclip1_any A c hc1 w2
      have Hk02 := Lib.hid hk02
      have Hcl := Lib.hid hcl
      clear hk02 hcl
      go_wp2_with fail
      refine Hcl.out.mono ?_
      rintro e w3 ⟨⟨c', rfl⟩, rfl⟩
      go_wp2_with fail
      go_ret
      exact ⟨⟨_, _, rfl⟩, Hk02.out⟩
end Go.Proofs.YtnlmdfbjmhcilaaDoor
