/-
  Parts of the proof, joined in build order: Tx6, Tx7, Tx8, Ex1, Ex2, Ex3, RecC, InsE, DelE, RecB, RegionT, Ex12, Ex13.
-/
import Derived.Test.YtnlmdfbjmhcilaaDoorMa1
import Derived.Laws.Cover1
import Derived.Laws.CopyRow
import Derived.Laws.AppendOwn
import Derived.Lib.AppendZeros
import Derived.Lib.Overlaps
import Derived.OwnWalk
set_option linter.unusedVariables false
set_option linter.unusedSimpArgs false
/-
  loggiaref5.rune1. (wip/gen_tx6.py)
-/
namespace Go.Proofs.YtnlmdfbjmhcilaaDoor
open Go.RowKit Go.Proofs
attribute [local go_sem] strOf_size strOf_get strOf_toList

theorem and_192 (x : Nat) (hx : x < 256) : bits .and .u8 (x : Int) 192 = ((x / 64 * 64 : Nat) : Int) := by
  have h := bits_and_u8_nat x 192 hx (by omega)
  have h2 : x &&& 192 = x % 2 ^ 8 / 2 ^ 6 * 2 ^ 6 := nat_midmask 8 6 x (by decide)
  rw [h2] at h
  have e : x % 2 ^ 8 / 2 ^ 6 * 2 ^ 6 = x / 64 * 64 := by omega
  rw [e] at h
  exact h
theorem bits_or_i64_n (a b : Nat) (ha : a < 9223372036854775808) (hb : b < 9223372036854775808) :
    bits .or .i64 (a : Int) (b : Int) = ((a ||| b : Nat) : Int) := by
  have hx : a ||| b < 2 ^ 63 := Nat.or_lt_two_pow (by omega) (by omega)
  have h1 : (BitVec.ofInt 64 (a : Int)).toNat = a := by
    rw [BitVec.ofInt_natCast, BitVec.toNat_ofNat]; exact Nat.mod_eq_of_lt (by omega)
  have h2 : (BitVec.ofInt 64 (b : Int)).toNat = b := by
    rw [BitVec.ofInt_natCast, BitVec.toNat_ofNat]; exact Nat.mod_eq_of_lt (by omega)
  show IntKind.i64.wrap ((BitVec.ofInt 64 (a : Int) ||| BitVec.ofInt 64 (b : Int)).toNat : Int) = _
  rw [BitVec.toNat_or, h1, h2]
  exact IntWalk.i64_in _ (by omega)
theorem or_step64 (u c : Nat) (hu : u < 33554432) : bits .or .i64 ((u : Int) * 64) ((c : Int) % 64) = ((u * 64 + c % 64 : Nat) : Int) := by
  have e1 : ((u : Int) * 64) = ((u * 64 : Nat) : Int) := by omega
  have e2 : ((c : Int) % 64) = ((c % 64 : Nat) : Int) := by omega
  rw [e1, e2, bits_or_i64_n _ _ (by omega) (by omega)]
  congr 1
  have := Nat.shiftLeft_add_eq_or_of_lt (a := u) (b := c % 64) (i := 6) (by omega)
  rw [Nat.shiftLeft_eq] at this
  exact this.symm
def R1P (s : List UInt8) (w : World) : Ending → World → Prop := fun e w' => e = .returned (.int .i64 (rune1 s)) ∧ w' = w
theorem R1P.is {s : List UInt8} {w : World} {k : Nat} (h : rune1 s = k) : R1P s w (.returned (.int .i64 k)) w := ⟨by rw [h], rfl⟩
set_option maxHeartbeats 8000000 in
theorem rune1_ref (s : List UInt8) (hs : s ≠ []) (hl : s.length ≤ 1000000000) (w : World) : Calls Tryd.prog 92 #[.string (strOf s)] w (R1P s w) := by
  have hlen : 0 < s.length := List.length_pos_iff.2 hs
  have hlen0 : ((s.length : Int) == 0) = false := by simp; omega
  have hlenN : ¬ s.length = 0 := by omega
  have hb0 := byteN_lt s 0
  obtain ⟨c, hc⟩ : ∃ c, c = byteN s 0 := ⟨_, rfl⟩
  by_cases h1 : byteN s 0 < 128
  · have h1I : ((byteN s 0 : Nat) : Int) < 128 := by omega
    have hr : rune1 s = 1 := by
      unfold rune1 headS
      rw [if_pos h1]
      simp only
      rw [if_neg (by omega)]
      simp only [contV]
      rw [if_pos (by simp [okV]; omega)]
    have Hr := Lib.hid hr
    have Hc := Lib.hid hc
    clear hr hc
    go_enter Tryd.func92, Tryd.ntmps92
    go_wp2_with fail
    go_ret
    exact R1P.is (k := 1) Hr.out
  · have h1I : ¬ ((byteN s 0 : Nat) : Int) < 128 := by omega
    by_cases g1 : byteN s 0 / 32 = 6
    · have ge192 : (192 : Int) ≤ ((byteN s 0 : Nat) : Int) := by omega
      have lt224 : ((byteN s 0 : Nat) : Int) < 224 := by omega
      have ltd224 : decide (((byteN s 0 : Nat) : Int) < 224) = true := by simp; omega
      have hhd : headS (byteN s 0) = some (1, byteN s 0 % 32, 128) := by
        unfold headS
        rw [if_neg h1, if_pos g1]
      clear g1
      have Hhd := Lib.hid hhd
      have Hc := Lib.hid hc
      clear hhd hc
      by_cases hle : s.length ≤ 1
      · have hleI : (s.length : Int) < 2 := by omega
        have hr : rune1 s = 0 := by unfold rune1; rw [Hhd.out]; simp only; rw [if_pos hle]
        have Hr := Lib.hid hr
        clear hr
        go_enter Tryd.func92, Tryd.ntmps92
        go_wp2_with fail
        go_ret
        exact R1P.is (k := 0) Hr.out
      · have hleI : ¬ (s.length : Int) < 2 := by omega
        go_enter Tryd.func92, Tryd.ntmps92
        go_wp2_with fail
        go_loop [5, 7] (fun vv iv => ∃ (k u : Nat), iv = .int .i64 ((k : Int) + 1) ∧ vv = .int .i64 u ∧ k ≤ 1 ∧ contV s (byteN s 0 % 32) k = some u ∧ u < 128 * 64 ^ k) (fun _ iv => 1 + 1 - (intOf iv).toNat)
        case atStart => exact ⟨0, byteN s 0 % 32, by simp, by simp, Nat.zero_le _, rfl, by omega⟩
        case round =>
          obtain ⟨k, u, rfl, rfl, hk, hcv, hu⟩ := hrel
          by_cases hkn : k < 1
          · have hknI : (k : Int) + 1 < 2 := by omega
            have hix : k + 1 < s.length := by omega
            have hixI : (k : Int) + 1 < s.length := by omega
            have hix0 : (0 : Int) ≤ (k : Int) + 1 := by omega
            have hb := byteN_lt s (k + 1)
            have hk1 : IntKind.i64.wrap ((k : Int) + 1 + 1) = (k : Int) + 1 + 1 := IntWalk.i64_in _ (by omega)
            have hpow : 64 ^ k ≤ 64 ^ 2 := Nat.pow_le_pow_right (by omega) (by omega)
            have hu2 : u < 33554432 := by have : 128 * 64 ^ k ≤ 128 * 64 ^ 2 := Nat.mul_le_mul_left _ hpow; omega
            have hstep := or_step64 u (byteN s (k + 1)) hu2
            have hwu : IntKind.i64.wrap ((u : Int) * 64) = (u : Int) * 64 := IntWalk.i64_in _ (by omega)
            have hand := and_192 (byteN s (k + 1)) hb
            by_cases h2 : byteN s (k + 1) / 64 = 2
            · have hz : (((byteN s (k + 1) / 64 * 64 : Nat) : Int)) = 128 := by omega
              rw [hz] at hand
              have hc2 : contV s (byteN s 0 % 32) (k + 1) = some (u * 64 + byteN s (k + 1) % 64) := by rw [contV, hcv]; simp only; rw [if_pos h2]
              have Hcv := Lib.hid hcv
              have Hc2 := Lib.hid hc2
              have Hu := Lib.hid hu
              clear hcv hc2 hu
              go_wp2_with fail
              go_round
              case rel =>
                have h9 := Hu.out
                refine ⟨k + 1, u * 64 + byteN s (k + 1) % 64, by simp, by simp, by omega, Hc2.out, ?_⟩
                rw [Nat.pow_succ]
                omega
              case measure => simp [intOf]; omega
            · obtain ⟨m, hm⟩ : ∃ m, m = byteN s (k + 1) / 64 * 64 := ⟨_, rfl⟩
              have hmI : ((m : Int) != 128) = true := by simp; omega
              rw [← hm] at hand
              have hc2 : contV s (byteN s 0 % 32) (k + 1) = none := by rw [contV, hcv]; simp only; rw [if_neg h2]
              have hr : rune1 s = 0 := by
                unfold rune1
                rw [Hhd.out]
                simp only
                rw [if_neg hle, contV_none hc2 (by omega)]
              clear hstep hwu
              have Hr := Lib.hid hr
              have Hu := Lib.hid hu
              have Hcv := Lib.hid hcv
              have Hc2 := Lib.hid hc2
              have Hm := Lib.hid hm
              clear hr hu hcv hc2 hm
              go_wp2_with fail
              go_ret
              exact R1P.is (k := 0) Hr.out
          · obtain rfl : k = 1 := by omega
            have hru : rune1 s = if okV u 128 = true then 1 + 1 else 0 := by
              unfold rune1
              rw [Hhd.out]
              simp only
              rw [if_neg hle, hcv]
            clear hu hcv Hhd
            have Hru := Lib.hid hru
            clear hru
            by_cases a1 : u < 128
            · have a1I : (u : Int) < 128 := by omega
              have hr : rune1 s = 0 := by rw [Hru.out, if_neg (by simp [okV]; omega)]
              have Hr := Lib.hid hr
              clear hr
              go_wp2_with fail
              go_ret
              exact R1P.is (k := 0) Hr.out
            · have a1I : ¬ (u : Int) < 128 := by omega
              by_cases a2 : 1114111 < u
              · have a2I : (1114111 : Int) < u := by omega
                have hr : rune1 s = 0 := by rw [Hru.out, if_neg (by simp [okV]; omega)]
                have Hr := Lib.hid hr
                clear hr
                go_wp2_with fail
                go_ret
                exact R1P.is (k := 0) Hr.out
              · have a2I : ¬ (1114111 : Int) < u := by omega
                by_cases a3 : 55296 ≤ u
                · have a3I : (55296 : Int) ≤ u := by omega
                  by_cases a4 : u ≤ 57343
                  · have a4I : decide ((u : Int) ≤ 57343) = true := by simp; omega
                    have a4J : (u : Int) ≤ 57343 := by omega
                    have hr : rune1 s = 0 := by rw [Hru.out, if_neg (by simp [okV]; omega)]
                    have Hr := Lib.hid hr
                    clear hr
                    go_wp2_with fail
                    go_ret
                    exact R1P.is (k := 0) Hr.out
                  · have a4I : decide ((u : Int) ≤ 57343) = false := by simp; omega
                    have a4J : ¬ (u : Int) ≤ 57343 := by omega
                    have hr : rune1 s = 1 + 1 := by rw [Hru.out, if_pos (by simp [okV]; omega)]
                    have Hr := Lib.hid hr
                    clear hr
                    go_wp2_with fail
                    go_ret
                    exact R1P.is (k := 2) Hr.out
                · have a3I : ¬ (55296 : Int) ≤ u := by omega
                  have hr : rune1 s = 1 + 1 := by rw [Hru.out, if_pos (by simp [okV]; omega)]
                  have Hr := Lib.hid hr
                  clear hr
                  go_wp2_with fail
                  go_ret
                  exact R1P.is (k := 2) Hr.out
    ·
      by_cases g2 : byteN s 0 / 16 = 14
      · have ge192 : (192 : Int) ≤ ((byteN s 0 : Nat) : Int) := by omega
        have lt224 : ¬ ((byteN s 0 : Nat) : Int) < 224 := by omega
        have ltd224 : decide (((byteN s 0 : Nat) : Int) < 224) = false := by simp; omega
        have ge224 : (224 : Int) ≤ ((byteN s 0 : Nat) : Int) := by omega
        have lt240 : ((byteN s 0 : Nat) : Int) < 240 := by omega
        have ltd240 : decide (((byteN s 0 : Nat) : Int) < 240) = true := by simp; omega
        have hhd : headS (byteN s 0) = some (2, byteN s 0 % 16, 2048) := by
          unfold headS
          rw [if_neg h1, if_neg g1, if_pos g2]
        clear g1
        clear g2
        have Hhd := Lib.hid hhd
        have Hc := Lib.hid hc
        clear hhd hc
        by_cases hle : s.length ≤ 2
        · have hleI : (s.length : Int) < 3 := by omega
          have hr : rune1 s = 0 := by unfold rune1; rw [Hhd.out]; simp only; rw [if_pos hle]
          have Hr := Lib.hid hr
          clear hr
          go_enter Tryd.func92, Tryd.ntmps92
          go_wp2_with fail
          go_ret
          exact R1P.is (k := 0) Hr.out
        · have hleI : ¬ (s.length : Int) < 3 := by omega
          go_enter Tryd.func92, Tryd.ntmps92
          go_wp2_with fail
          go_loop [5, 7] (fun vv iv => ∃ (k u : Nat), iv = .int .i64 ((k : Int) + 1) ∧ vv = .int .i64 u ∧ k ≤ 2 ∧ contV s (byteN s 0 % 16) k = some u ∧ u < 128 * 64 ^ k) (fun _ iv => 2 + 1 - (intOf iv).toNat)
          case atStart => exact ⟨0, byteN s 0 % 16, by simp, by simp, Nat.zero_le _, rfl, by omega⟩
          case round =>
            obtain ⟨k, u, rfl, rfl, hk, hcv, hu⟩ := hrel
            by_cases hkn : k < 2
            · have hknI : (k : Int) + 1 < 3 := by omega
              have hix : k + 1 < s.length := by omega
              have hixI : (k : Int) + 1 < s.length := by omega
              have hix0 : (0 : Int) ≤ (k : Int) + 1 := by omega
              have hb := byteN_lt s (k + 1)
              have hk1 : IntKind.i64.wrap ((k : Int) + 1 + 1) = (k : Int) + 1 + 1 := IntWalk.i64_in _ (by omega)
              have hpow : 64 ^ k ≤ 64 ^ 2 := Nat.pow_le_pow_right (by omega) (by omega)
              have hu2 : u < 33554432 := by have : 128 * 64 ^ k ≤ 128 * 64 ^ 2 := Nat.mul_le_mul_left _ hpow; omega
              have hstep := or_step64 u (byteN s (k + 1)) hu2
              have hwu : IntKind.i64.wrap ((u : Int) * 64) = (u : Int) * 64 := IntWalk.i64_in _ (by omega)
              have hand := and_192 (byteN s (k + 1)) hb
              by_cases h2 : byteN s (k + 1) / 64 = 2
              · have hz : (((byteN s (k + 1) / 64 * 64 : Nat) : Int)) = 128 := by omega
                rw [hz] at hand
                have hc2 : contV s (byteN s 0 % 16) (k + 1) = some (u * 64 + byteN s (k + 1) % 64) := by rw [contV, hcv]; simp only; rw [if_pos h2]
                have Hcv := Lib.hid hcv
                have Hc2 := Lib.hid hc2
                have Hu := Lib.hid hu
                clear hcv hc2 hu
                go_wp2_with fail
                go_round
                case rel =>
                  have h9 := Hu.out
                  refine ⟨k + 1, u * 64 + byteN s (k + 1) % 64, by simp, by simp, by omega, Hc2.out, ?_⟩
                  rw [Nat.pow_succ]
                  omega
                case measure => simp [intOf]; omega
              · obtain ⟨m, hm⟩ : ∃ m, m = byteN s (k + 1) / 64 * 64 := ⟨_, rfl⟩
                have hmI : ((m : Int) != 128) = true := by simp; omega
                rw [← hm] at hand
                have hc2 : contV s (byteN s 0 % 16) (k + 1) = none := by rw [contV, hcv]; simp only; rw [if_neg h2]
                have hr : rune1 s = 0 := by
                  unfold rune1
                  rw [Hhd.out]
                  simp only
                  rw [if_neg hle, contV_none hc2 (by omega)]
                clear hstep hwu
                have Hr := Lib.hid hr
                have Hu := Lib.hid hu
                have Hcv := Lib.hid hcv
                have Hc2 := Lib.hid hc2
                have Hm := Lib.hid hm
                clear hr hu hcv hc2 hm
                go_wp2_with fail
                go_ret
                exact R1P.is (k := 0) Hr.out
            · obtain rfl : k = 2 := by omega
              have hru : rune1 s = if okV u 2048 = true then 2 + 1 else 0 := by
                unfold rune1
                rw [Hhd.out]
                simp only
                rw [if_neg hle, hcv]
              clear hu hcv Hhd
              have Hru := Lib.hid hru
              clear hru
              by_cases a1 : u < 2048
              · have a1I : (u : Int) < 2048 := by omega
                have hr : rune1 s = 0 := by rw [Hru.out, if_neg (by simp [okV]; omega)]
                have Hr := Lib.hid hr
                clear hr
                go_wp2_with fail
                go_ret
                exact R1P.is (k := 0) Hr.out
              · have a1I : ¬ (u : Int) < 2048 := by omega
                by_cases a2 : 1114111 < u
                · have a2I : (1114111 : Int) < u := by omega
                  have hr : rune1 s = 0 := by rw [Hru.out, if_neg (by simp [okV]; omega)]
                  have Hr := Lib.hid hr
                  clear hr
                  go_wp2_with fail
                  go_ret
                  exact R1P.is (k := 0) Hr.out
                · have a2I : ¬ (1114111 : Int) < u := by omega
                  by_cases a3 : 55296 ≤ u
                  · have a3I : (55296 : Int) ≤ u := by omega
                    by_cases a4 : u ≤ 57343
                    · have a4I : decide ((u : Int) ≤ 57343) = true := by simp; omega
                      have a4J : (u : Int) ≤ 57343 := by omega
                      have hr : rune1 s = 0 := by rw [Hru.out, if_neg (by simp [okV]; omega)]
                      have Hr := Lib.hid hr
                      clear hr
                      go_wp2_with fail
                      go_ret
                      exact R1P.is (k := 0) Hr.out
                    · have a4I : decide ((u : Int) ≤ 57343) = false := by simp; omega
                      have a4J : ¬ (u : Int) ≤ 57343 := by omega
                      have hr : rune1 s = 2 + 1 := by rw [Hru.out, if_pos (by simp [okV]; omega)]
                      have Hr := Lib.hid hr
                      clear hr
                      go_wp2_with fail
                      go_ret
                      exact R1P.is (k := 3) Hr.out
                  · have a3I : ¬ (55296 : Int) ≤ u := by omega
                    have hr : rune1 s = 2 + 1 := by rw [Hru.out, if_pos (by simp [okV]; omega)]
                    have Hr := Lib.hid hr
                    clear hr
                    go_wp2_with fail
                    go_ret
                    exact R1P.is (k := 3) Hr.out
      ·
        by_cases g3 : byteN s 0 / 8 = 30
        · have ge192 : (192 : Int) ≤ ((byteN s 0 : Nat) : Int) := by omega
          have lt224 : ¬ ((byteN s 0 : Nat) : Int) < 224 := by omega
          have ltd224 : decide (((byteN s 0 : Nat) : Int) < 224) = false := by simp; omega
          have ge224 : (224 : Int) ≤ ((byteN s 0 : Nat) : Int) := by omega
          have lt240 : ¬ ((byteN s 0 : Nat) : Int) < 240 := by omega
          have ltd240 : decide (((byteN s 0 : Nat) : Int) < 240) = false := by simp; omega
          have ge240 : (240 : Int) ≤ ((byteN s 0 : Nat) : Int) := by omega
          have lt248 : ((byteN s 0 : Nat) : Int) < 248 := by omega
          have ltd248 : decide (((byteN s 0 : Nat) : Int) < 248) = true := by simp; omega
          have hhd : headS (byteN s 0) = some (3, byteN s 0 % 8, 65536) := by
            unfold headS
            rw [if_neg h1, if_neg g1, if_neg g2, if_pos g3]
          clear g1
          clear g2
          clear g3
          have Hhd := Lib.hid hhd
          have Hc := Lib.hid hc
          clear hhd hc
          by_cases hle : s.length ≤ 3
          · have hleI : (s.length : Int) < 4 := by omega
            have hr : rune1 s = 0 := by unfold rune1; rw [Hhd.out]; simp only; rw [if_pos hle]
            have Hr := Lib.hid hr
            clear hr
            go_enter Tryd.func92, Tryd.ntmps92
            go_wp2_with fail
            go_ret
            exact R1P.is (k := 0) Hr.out
          · have hleI : ¬ (s.length : Int) < 4 := by omega
            go_enter Tryd.func92, Tryd.ntmps92
            go_wp2_with fail
            go_loop [5, 7] (fun vv iv => ∃ (k u : Nat), iv = .int .i64 ((k : Int) + 1) ∧ vv = .int .i64 u ∧ k ≤ 3 ∧ contV s (byteN s 0 % 8) k = some u ∧ u < 128 * 64 ^ k) (fun _ iv => 3 + 1 - (intOf iv).toNat)
            case atStart => exact ⟨0, byteN s 0 % 8, by simp, by simp, Nat.zero_le _, rfl, by omega⟩
            case round =>
              obtain ⟨k, u, rfl, rfl, hk, hcv, hu⟩ := hrel
              by_cases hkn : k < 3
              · have hknI : (k : Int) + 1 < 4 := by omega
                have hix : k + 1 < s.length := by omega
                have hixI : (k : Int) + 1 < s.length := by omega
                have hix0 : (0 : Int) ≤ (k : Int) + 1 := by omega
                have hb := byteN_lt s (k + 1)
                have hk1 : IntKind.i64.wrap ((k : Int) + 1 + 1) = (k : Int) + 1 + 1 := IntWalk.i64_in _ (by omega)
                have hpow : 64 ^ k ≤ 64 ^ 2 := Nat.pow_le_pow_right (by omega) (by omega)
                have hu2 : u < 33554432 := by have : 128 * 64 ^ k ≤ 128 * 64 ^ 2 := Nat.mul_le_mul_left _ hpow; omega
                have hstep := or_step64 u (byteN s (k + 1)) hu2
                have hwu : IntKind.i64.wrap ((u : Int) * 64) = (u : Int) * 64 := IntWalk.i64_in _ (by omega)
                have hand := and_192 (byteN s (k + 1)) hb
                by_cases h2 : byteN s (k + 1) / 64 = 2
                · have hz : (((byteN s (k + 1) / 64 * 64 : Nat) : Int)) = 128 := by omega
                  rw [hz] at hand
                  have hc2 : contV s (byteN s 0 % 8) (k + 1) = some (u * 64 + byteN s (k + 1) % 64) := by rw [contV, hcv]; simp only; rw [if_pos h2]
                  have Hcv := Lib.hid hcv
                  have Hc2 := Lib.hid hc2
                  have Hu := Lib.hid hu
                  clear hcv hc2 hu
                  go_wp2_with fail
                  go_round
                  case rel =>
                    have h9 := Hu.out
                    refine ⟨k + 1, u * 64 + byteN s (k + 1) % 64, by simp, by simp, by omega, Hc2.out, ?_⟩
                    rw [Nat.pow_succ]
                    omega
                  case measure => simp [intOf]; omega
                · obtain ⟨m, hm⟩ : ∃ m, m = byteN s (k + 1) / 64 * 64 := ⟨_, rfl⟩
                  have hmI : ((m : Int) != 128) = true := by simp; omega
                  rw [← hm] at hand
                  have hc2 : contV s (byteN s 0 % 8) (k + 1) = none := by rw [contV, hcv]; simp only; rw [if_neg h2]
                  have hr : rune1 s = 0 := by
                    unfold rune1
                    rw [Hhd.out]
                    simp only
                    rw [if_neg hle, contV_none hc2 (by omega)]
                  clear hstep hwu
                  have Hr := Lib.hid hr
                  have Hu := Lib.hid hu
                  have Hcv := Lib.hid hcv
                  have Hc2 := Lib.hid hc2
                  have Hm := Lib.hid hm
                  clear hr hu hcv hc2 hm
                  go_wp2_with fail
                  go_ret
                  exact R1P.is (k := 0) Hr.out
              · obtain rfl : k = 3 := by omega
                have hru : rune1 s = if okV u 65536 = true then 3 + 1 else 0 := by
                  unfold rune1
                  rw [Hhd.out]
                  simp only
                  rw [if_neg hle, hcv]
                clear hu hcv Hhd
                have Hru := Lib.hid hru
                clear hru
                by_cases a1 : u < 65536
                · have a1I : (u : Int) < 65536 := by omega
                  have hr : rune1 s = 0 := by rw [Hru.out, if_neg (by simp [okV]; omega)]
                  have Hr := Lib.hid hr
                  clear hr
                  go_wp2_with fail
                  go_ret
                  exact R1P.is (k := 0) Hr.out
                · have a1I : ¬ (u : Int) < 65536 := by omega
                  by_cases a2 : 1114111 < u
                  · have a2I : (1114111 : Int) < u := by omega
                    have hr : rune1 s = 0 := by rw [Hru.out, if_neg (by simp [okV]; omega)]
                    have Hr := Lib.hid hr
                    clear hr
                    go_wp2_with fail
                    go_ret
                    exact R1P.is (k := 0) Hr.out
                  · have a2I : ¬ (1114111 : Int) < u := by omega
                    by_cases a3 : 55296 ≤ u
                    · have a3I : (55296 : Int) ≤ u := by omega
                      by_cases a4 : u ≤ 57343
                      · have a4I : decide ((u : Int) ≤ 57343) = true := by simp; omega
                        have a4J : (u : Int) ≤ 57343 := by omega
                        have hr : rune1 s = 0 := by rw [Hru.out, if_neg (by simp [okV]; omega)]
                        have Hr := Lib.hid hr
                        clear hr
                        go_wp2_with fail
                        go_ret
                        exact R1P.is (k := 0) Hr.out
                      · have a4I : decide ((u : Int) ≤ 57343) = false := by simp; omega
                        have a4J : ¬ (u : Int) ≤ 57343 := by omega
                        have hr : rune1 s = 3 + 1 := by rw [Hru.out, if_pos (by simp [okV]; omega)]
                        have Hr := Lib.hid hr
                        clear hr
                        go_wp2_with fail
                        go_ret
                        exact R1P.is (k := 4) Hr.out
                    · have a3I : ¬ (55296 : Int) ≤ u := by omega
                      have hr : rune1 s = 3 + 1 := by rw [Hru.out, if_pos (by simp [okV]; omega)]
                      have Hr := Lib.hid hr
                      clear hr
                      go_wp2_with fail
                      go_ret
                      exact R1P.is (k := 4) Hr.out
        ·
          have hhd : headS (byteN s 0) = none := by
            unfold headS
            rw [if_neg h1, if_neg g1, if_neg g2, if_neg g3]
          have hr : rune1 s = 0 := by unfold rune1; rw [hhd]
          by_cases g4 : byteN s 0 < 192
          · have ge192 : ¬ (192 : Int) ≤ ((byteN s 0 : Nat) : Int) := by omega
            have ged192 : decide ((192 : Int) ≤ ((byteN s 0 : Nat) : Int)) = false := by simp; omega
            have ge224 : ¬ (224 : Int) ≤ ((byteN s 0 : Nat) : Int) := by omega
            have ged224 : decide ((224 : Int) ≤ ((byteN s 0 : Nat) : Int)) = false := by simp; omega
            have ge240 : ¬ (240 : Int) ≤ ((byteN s 0 : Nat) : Int) := by omega
            have ged240 : decide ((240 : Int) ≤ ((byteN s 0 : Nat) : Int)) = false := by simp; omega
            clear g1 g2 g3 g4
            have Hr := Lib.hid hr
            have Hhd := Lib.hid hhd
            have Hc := Lib.hid hc
            clear hr hhd hc
            go_enter Tryd.func92, Tryd.ntmps92
            go_wp2_with fail
            go_ret
            exact R1P.is (k := 0) Hr.out
          · have ge192 : (192 : Int) ≤ ((byteN s 0 : Nat) : Int) := by omega
            have lt224 : ¬ ((byteN s 0 : Nat) : Int) < 224 := by omega
            have ltd224 : decide (((byteN s 0 : Nat) : Int) < 224) = false := by simp; omega
            have ge224 : (224 : Int) ≤ ((byteN s 0 : Nat) : Int) := by omega
            have lt240 : ¬ ((byteN s 0 : Nat) : Int) < 240 := by omega
            have ltd240 : decide (((byteN s 0 : Nat) : Int) < 240) = false := by simp; omega
            have ge240 : (240 : Int) ≤ ((byteN s 0 : Nat) : Int) := by omega
            have lt248 : ¬ ((byteN s 0 : Nat) : Int) < 248 := by omega
            have ltd248 : decide (((byteN s 0 : Nat) : Int) < 248) = false := by simp; omega
            clear g1 g2 g3 g4
            have Hr := Lib.hid hr
            have Hhd := Lib.hid hhd
            have Hc := Lib.hid hc
            clear hr hhd hc
            go_enter Tryd.func92, Tryd.ntmps92
            go_wp2_with fail
            go_ret
            exact R1P.is (k := 0) Hr.out
end Go.Proofs.YtnlmdfbjmhcilaaDoor
/-
  loggiaref5.Runes, Valid, Name.
-/
namespace Go.Proofs.YtnlmdfbjmhcilaaDoor
open Go.RowKit Go.Proofs
attribute [local go_sem] strOf_size strOf_get strOf_toList

def RRunesP (s : List UInt8) (w : World) : Ending → World → Prop := fun e w' => e = .returned (.tuple #[.int .i64 ((runesS s).getD 0), .bool (runesS s).isSome]) ∧ w' = w
theorem RRunesP.none {s : List UInt8} {w : World} (h : runesS s = none) : RRunesP s w (.returned (.tuple #[.int .i64 0, .bool false])) w := ⟨by rw [h]; rfl, rfl⟩
theorem RRunesP.some {s : List UInt8} {w : World} {k : Nat} (h : runesS s = some k) : RRunesP s w (.returned (.tuple #[.int .i64 k, .bool true])) w := ⟨by rw [h]; rfl, rfl⟩
set_option maxHeartbeats 4000000 in
theorem runes_ref (s : List UInt8) (hl : s.length ≤ 1000000000) (w : World) : Calls Tryd.prog 65 #[.string (strOf s)] w (RRunesP s w) := by
  go_enter Tryd.func65, Tryd.ntmps65
  go_wp2_with fail
  go_loop [0, 4] (fun sv nv => ∃ (r : List UInt8) (k : Nat), sv = .string (strOf r) ∧ nv = .int .i64 k ∧ runesS s = (runesS r).map (· + k) ∧ k + r.length ≤ s.length) (fun sv _ => (match sv with | .string b => b.size | _ => 0))
  case atStart => exact ⟨s, 0, rfl, rfl, by simp, by omega⟩
  case round =>
    obtain ⟨r, k, rfl, rfl, hrs, hkl⟩ := hrel
    by_cases hr : r = []
    · subst hr
      have hfin : runesS s = some k := by rw [hrs, runesS_nil]; simp
      have h0 : ¬ (0 : Int) < (([] : List UInt8).length : Int) := by simp
      clear hrs
      have Hfin := Lib.hid hfin
      clear hfin
      go_wp2_with fail
      go_ret2
      exact RRunesP.some Hfin.out
    · have hrl : 0 < r.length := List.length_pos_iff.2 hr
      have hrlI : (0 : Int) < (r.length : Int) := by omega
      have ho := rune1_ref r hr (by omega) w
      have hcons := runesS_cons hr
      obtain ⟨j, hj⟩ : ∃ j, j = rune1 r := ⟨_, rfl⟩
      have ho2 := ho.mono (R' := fun e w' => e = .returned (.int .i64 j) ∧ w' = w) (fun e w' h => ⟨by rw [h.1, hj], h.2⟩)
      rw [← hj] at hcons
      clear ho
      by_cases h0 : j = 0
      · rw [if_pos h0] at hcons
        have hfin : runesS s = none := by rw [hrs, hcons]; rfl
        have h0I : ((j : Int) == 0) = true := by simp [h0]
        clear hrs hcons
        have Ho2 := Lib.hid ho2
        have Hfin := Lib.hid hfin
        have Hj := Lib.hid hj
        clear ho2 hfin hj
        go_wp2_with fail
        refine Ho2.out.mono ?_
        rintro e w' ⟨rfl, rfl⟩
        go_wp2_with fail
        go_ret2
        exact RRunesP.none Hfin.out
      · rw [if_neg h0] at hcons
        have hjl : j ≤ r.length := by rw [hj]; exact rune1_le r
        have hd := strOf_drop r j
        have h0I : ((j : Int) == 0) = false := by simp [h0]
        have hjI : (j : Int) ≤ r.length := by omega
        have hj0 : (0 : Int) ≤ j := by omega
        have hk1 : IntKind.i64.wrap ((k : Int) + 1) = (k : Int) + 1 := IntWalk.i64_in _ (by omega)
        have hrs2 : runesS s = (runesS (r.drop j)).map (· + (k + 1)) := by
          rw [hrs, hcons, Option.map_map]
          congr 1
          funext x
          simp
          omega
        clear hrs hcons
        have Ho2 := Lib.hid ho2
        have Hrs2 := Lib.hid hrs2
        have Hj := Lib.hid hj
        clear ho2 hrs2 hj
        go_wp2_with fail
        refine Ho2.out.mono ?_
        rintro e w' ⟨rfl, rfl⟩
        go_wp2_with fail
        go_round
        case rel => exact ⟨r.drop j, k + 1, by simp, by simp, Hrs2.out, by simp; omega⟩
        case measure => simp [strOf_size]; omega
set_option maxHeartbeats 4000000 in
theorem valid_ref (s : List UInt8) (hl : s.length ≤ 1000000000) (w : World) : Calls Tryd.prog 37 #[.string (strOf s)] w fun e w' => e = .returned (.bool (validS s)) ∧ w' = w := by
  have hr := runes_ref s hl w
  unfold RRunesP at hr
  obtain ⟨m, hm⟩ : ∃ n : Nat, n = (runesS s).getD 0 := ⟨_, rfl⟩
  obtain ⟨o, ho⟩ : ∃ o, o = (runesS s).isSome := ⟨_, rfl⟩
  obtain ⟨v, hv⟩ : ∃ v, v = validS s := ⟨_, rfl⟩
  rw [← hm, ← ho] at hr
  rw [← hv]
  have Hr := Lib.hid hr
  have Hm := Lib.hid hm
  have Ho := Lib.hid ho
  have Hv := Lib.hid hv
  clear hr hm ho hv
  go_enter Tryd.func37, Tryd.ntmps37
  go_wp2_with fail
  go_loop [3] (fun iv => ∃ i : Nat, iv = .int .i64 i ∧ i ≤ s.length ∧ ∀ j x, j < i → s[j]? = some x → x ≠ 0) (fun iv => s.length - (intOf iv).toNat)
  case atStart => exact ⟨0, rfl, Nat.zero_le _, fun j x h => by omega⟩
  case round =>
    obtain ⟨i, rfl, hi, hok⟩ := hrel
    by_cases hlt : i < s.length
    · have hltI : (i : Int) < s.length := by omega
      have hi0 : (0 : Int) ≤ (i : Int) := by omega
      have hi1 : IntKind.i64.wrap ((i : Int) + 1) = i + 1 := IntWalk.i64_in _ (by omega)
      have hx : s[i]? = some s[i] := List.getElem?_eq_getElem hlt
      have hbn : byteN s i = (s[i]).toNat := by unfold byteN; rw [hx]; rfl
      by_cases hz : byteN s i = 0
      · have hzI : (((byteN s i : Nat) : Int) == 0) = true := by simp [hz]
        have hs0 : s[i] = 0 := UInt8.toNat_inj.1 (by rw [← hbn, hz]; rfl)
        have hvf : v = false := by
          rw [Hv.out]
          unfold validS
          have : s.contains 0 = true := by rw [List.contains_iff_mem]; rw [← hs0]; exact List.getElem_mem hlt
          rw [this]; simp
        clear hok
        subst hvf
        have Hbn := Lib.hid hbn
        have Hx := Lib.hid hx
        have Hs0 := Lib.hid hs0
        have Hz := Lib.hid hz
        clear hbn hx hs0 hz
        go_wp2_with fail
        go_ret
        exact ⟨rfl, rfl⟩
      · have hzI : (((byteN s i : Nat) : Int) == 0) = false := by simp [hz]
        have hok2 : ∀ j y, j < i + 1 → s[j]? = some y → y ≠ 0 := fun j y hj hy => by
          by_cases e : j < i
          · exact hok j y e hy
          · have : j = i := by omega
            subst this
            rw [hx] at hy
            have hy := Option.some.inj hy
            intro h0
            rw [h0] at hy
            exact hz (by rw [hbn, hy]; rfl)
        clear hok
        have Hbn := Lib.hid hbn
        have Hx := Lib.hid hx
        have Hok2 := Lib.hid hok2
        have Hz := Lib.hid hz
        clear hbn hx hok2 hz
        go_wp2_with fail
        go_round
        case rel => exact ⟨i + 1, by simp, by omega, Hok2.out⟩
        case measure => simp [intOf]; omega
    · obtain rfl : i = s.length := by omega
      have hiI : ¬ ((s.length : Nat) : Int) < s.length := by omega
      have hc0 : s.contains 0 = false := by
        rw [Bool.eq_false_iff]
        intro h
        rw [List.contains_iff_mem] at h
        obtain ⟨j, hj, e⟩ := List.getElem_of_mem h
        exact hok j 0 hj (by rw [List.getElem?_eq_getElem hj, e]) rfl
      have hvo : v = (o && decide (s.length ≤ 64)) := by
        rw [Hv.out, Ho.out]; unfold validS; rw [hc0]; simp
      clear hok
      cases o with
      | false =>
        have hvf : v = false := by rw [hvo]; rfl
        subst hvf
        clear hvo
        have Hc0 := Lib.hid hc0
        clear hc0
        go_wp2_with fail
        refine Hr.out.mono ?_
        rintro e w' ⟨rfl, rfl⟩
        go_wp2_with fail
        go_ret
        exact ⟨rfl, rfl⟩
      | true =>
        have hvf : v = decide ((s.length : Int) ≤ 64) := by rw [hvo, Bool.true_and, decide_eq_decide]; omega
        subst hvf
        clear hvo
        have Hc0 := Lib.hid hc0
        clear hc0
        go_wp2_with fail
        refine Hr.out.mono ?_
        rintro e w' ⟨rfl, rfl⟩
        go_wp2_with fail
        go_ret
        exact ⟨rfl, rfl⟩
end Go.Proofs.YtnlmdfbjmhcilaaDoor
/-
  loggiaref5.Name.
-/
namespace Go.Proofs.YtnlmdfbjmhcilaaDoor
open Go.RowKit Go.Proofs
attribute [local go_sem] strOf_size strOf_get strOf_toList

def RNameP (s : List UInt8) (w : World) : Ending → World → Prop := fun e w' => e = .returned (.int .i64 (nameE s)) ∧ w' = w
theorem RNameP.is {s : List UInt8} {w : World} {k : Int} (h : nameE s = k) : RNameP s w (.returned (.int .i64 k)) w := ⟨by rw [h], rfl⟩
set_option maxRecDepth 20000 in
set_option maxHeartbeats 4000000 in
theorem name_ref (s : List UInt8) (hl : s.length ≤ 1000000000) (w : World) : Calls Tryd.prog 17 #[.string (strOf s)] w (RNameP s w) := by
  have hv := valid_ref s hl w
  obtain ⟨b, hb⟩ : ∃ b, b = validS s := ⟨_, rfl⟩
  rw [← hb] at hv
  cases b with
  | false =>
    have hn : nameE s = 6 := by unfold nameE nameBad; rw [← hb]; rfl
    clear hb
    have Hv := Lib.hid hv
    have Hn := Lib.hid hn
    clear hv hn
    go_enter Tryd.func17, Tryd.ntmps17
    go_wp2_with fail
    refine Hv.out.mono ?_
    rintro e w1 ⟨rfl, rfl⟩
    go_wp2_with fail
    go_ret
    exact RNameP.is Hn.out
  | true =>
    by_cases h0 : s = []
    · have x0 : s.isEmpty = true := by rw [h0]; rfl
      have y0 : (s == []) = true := by rw [h0]; rfl
      have hnb : nameBad s = true := by unfold nameBad; rw [y0]; simp
      have hn : nameE s = 6 := by unfold nameE; rw [if_pos hnb]
      clear h0 hnb y0 hb
      have Hv := Lib.hid hv
      have Hn := Lib.hid hn
      clear hv hn
      go_enter Tryd.func17, Tryd.ntmps17
      go_wp2_with fail
      refine Hv.out.mono ?_
      rintro e w1 ⟨rfl, rfl⟩
      go_wp2_with fail
      go_ret
      exact RNameP.is Hn.out
    · have x0 : s.isEmpty = false := by simp [h0]
      by_cases h1 : s = [46]
      · have x1 : (s == [46]) = true := by rw [h1]; rfl
        have hnb : nameBad s = true := by unfold nameBad; rw [x1]; simp
        have hn : nameE s = 6 := by unfold nameE; rw [if_pos hnb]
        clear h1 hnb hb
        have Hv := Lib.hid hv
        have Hn := Lib.hid hn
        clear hv hn
        go_enter Tryd.func17, Tryd.ntmps17
        go_wp2_with fail
        refine Hv.out.mono ?_
        rintro e w1 ⟨rfl, rfl⟩
        go_wp2_with fail
        go_ret
        exact RNameP.is Hn.out
      · have x1 : (s == [46]) = false := by simp [h1]
        by_cases h2 : s = [46, 46]
        · have x2 : (s == [46, 46]) = true := by rw [h2]; rfl
          have hnb : nameBad s = true := by unfold nameBad; rw [x2]; simp
          have hn : nameE s = 6 := by unfold nameE; rw [if_pos hnb]
          clear h2 hnb hb
          have Hv := Lib.hid hv
          have Hn := Lib.hid hn
          clear hv hn
          go_enter Tryd.func17, Tryd.ntmps17
          go_wp2_with fail
          refine Hv.out.mono ?_
          rintro e w1 ⟨rfl, rfl⟩
          go_wp2_with fail
          go_ret
          exact RNameP.is Hn.out
        · have x2 : (s == [46, 46]) = false := by simp [h2]
          have hnb : nameBad s = false := by unfold nameBad; rw [← hb]; simp [h0, h1, h2]
          have Hv := Lib.hid hv
          have Hb := Lib.hid hb
          have Hnb := Lib.hid hnb
          clear hv hb hnb
          go_enter Tryd.func17, Tryd.ntmps17
          go_wp2_with fail
          refine Hv.out.mono ?_
          rintro e w1 ⟨rfl, rfl⟩
          go_wp2_with fail
          go_loop [3] (fun iv => ∃ i : Nat, iv = .int .i64 i ∧ i ≤ s.length ∧ ∀ j x, j < i → s[j]? = some x → badC x = false) (fun iv => s.length - (intOf iv).toNat)
          case atStart => exact ⟨0, rfl, Nat.zero_le _, fun j x h => by omega⟩
          case round =>
            obtain ⟨i, rfl, hi, hok⟩ := hrel
            by_cases hlt : i < s.length
            · have hltI : (i : Int) < s.length := by omega
              have hi0 : (0 : Int) ≤ (i : Int) := by omega
              have hi1 : IntKind.i64.wrap ((i : Int) + 1) = i + 1 := IntWalk.i64_in _ (by omega)
              have hx : s[i]? = some s[i] := List.getElem?_eq_getElem hlt
              obtain ⟨x, hxx⟩ : ∃ x, x = s[i] := ⟨_, rfl⟩
              rw [← hxx] at hx
              have hbn : byteN s i = x.toNat := by unfold byteN; rw [hx]; rfl
              have hbad : badC x = true → nameE s = 6 := fun hbx => by
                unfold nameE
                rw [Hnb.out, if_neg (by simp), if_pos]
                rw [List.any_eq_true]
                exact ⟨x, List.mem_of_getElem? hx, hbx⟩
              have hok2 : badC x = false → ∀ j y, j < i + 1 → s[j]? = some y → badC y = false := fun hbx j y hj hy => by
                by_cases e : j < i
                · exact hok j y e hy
                · have : j = i := by omega
                  subst this
                  rw [hx] at hy
                  have hy := Option.some.inj hy
                  subst hy
                  exact hbx
              clear hok
              by_cases c1 : byteN s i < 32
              · have c1I : ((byteN s i : Nat) : Int) < 32 := by omega
                have hn := hbad (by unfold badC; simp; left; omega)
                clear hok2 hbad
                have Hn := Lib.hid hn
                have Hx := Lib.hid hx
                have Hbn := Lib.hid hbn
                have Hxx := Lib.hid hxx
                clear hn hx hbn hxx
                go_wp2_with fail
                go_ret
                exact RNameP.is Hn.out
              · have c1I : ¬ ((byteN s i : Nat) : Int) < 32 := by omega
                by_cases c2 : byteN s i = 47
                · have c2I : (((byteN s i : Nat) : Int) == 47) = true := by simp; omega
                  have hn := hbad (by unfold badC; simp; right; omega)
                  clear hok2 hbad
                  have Hn := Lib.hid hn
                  have Hx := Lib.hid hx
                  have Hbn := Lib.hid hbn
                  have Hxx := Lib.hid hxx
                  have C2 := Lib.hid c2
                  clear hn hx hbn hxx c2
                  go_wp2_with fail
                  go_ret
                  exact RNameP.is Hn.out
                · have c2I : (((byteN s i : Nat) : Int) == 47) = false := by simp; omega
                  have hok3 := hok2 (by unfold badC; simp; omega)
                  clear hok2 hbad
                  have Hok3 := Lib.hid hok3
                  have Hx := Lib.hid hx
                  have Hbn := Lib.hid hbn
                  have Hxx := Lib.hid hxx
                  have C2 := Lib.hid c2
                  clear hok3 hx hbn hxx c2
                  go_wp2_with fail
                  go_round
                  case rel => exact ⟨i + 1, by simp, by omega, Hok3.out⟩
                  case measure => simp [intOf]; omega
            · obtain rfl : i = s.length := by omega
              have hiI : ¬ ((s.length : Nat) : Int) < s.length := by omega
              have hany : s.any (fun c => decide (c.toNat < 32) || c.toNat == 47) = false := by
                rw [Bool.eq_false_iff]
                intro h
                rw [List.any_eq_true] at h
                obtain ⟨x, hx, hb⟩ := h
                obtain ⟨j, hj, e⟩ := List.getElem_of_mem hx
                have := hok j x hj (by rw [List.getElem?_eq_getElem hj, e])
                unfold badC at this
                rw [this] at hb
                cases hb
              clear hok
              by_cases h28 : 28 < s.length
              · have h28I : (28 : Int) < (s.length : Int) := by omega
                have hn : nameE s = 3 := by
                  unfold nameE
                  rw [Hnb.out, if_neg (by simp), hany, if_neg (by simp), if_pos h28]
                clear hany
                have Hn := Lib.hid hn
                clear hn
                go_wp2_with fail
                go_ret
                exact RNameP.is Hn.out
              · have h28I : ¬ (28 : Int) < (s.length : Int) := by omega
                have hn : nameE s = 0 := by
                  unfold nameE
                  rw [Hnb.out, if_neg (by simp), hany, if_neg (by simp), if_neg h28]
                clear hany
                have Hn := Lib.hid hn
                clear hn
                go_wp2_with fail
                go_ret
                exact RNameP.is Hn.out
end Go.Proofs.YtnlmdfbjmhcilaaDoor
/-
  entry: may, compare; an entry as a record.
-/
namespace Go.Proofs.YtnlmdfbjmhcilaaDoor
open Go.RowKit Go.Proofs
attribute [local go_sem] strOf_size strOf_get strOf_toList

abbrev EntV := List UInt8 × Nat
def entCs (x : EntV) : List Value := [.string (strOf x.1), .int .u32 x.2]
def recE : RecT EntV := ⟨38, 2, entCs, fun _ => rfl, fun _ u hu => by simp [entCs] at hu; rcases hu with rfl | rfl <;> rfl, by decide⟩
def entV (x : EntV) : Value := .agg #[.string (strOf x.1), .int .u32 x.2]
theorem infoE : (Tryd.prog.info? 38).map (fun i => (i.zero, i.size, i.bytes)) = some (some (.agg #[.string ⟨#[]⟩, .int .u32 0]), 2, 24) := by kernel_rfl
def mayE (x : EntV) : Int := if nameE x.1 = 0 then (if x.2 = 0 then 1 else 0) else nameE x.1
def MayP (x : EntV) (w : World) : Ending → World → Prop := fun e w' => e = .returned (.int .i64 (mayE x)) ∧ Keeps nowhere w w'
set_option maxHeartbeats 1000000 in
theorem may_any (x : EntV) (hl : x.1.length ≤ 1000000000) (w : World) : Calls Tryd.prog 25 #[entV x] w (MayP x w) := by
  obtain ⟨n, i⟩ := x
  unfold entV
  simp only at hl ⊢
  obtain ⟨q, hq⟩ : ∃ q, q = w.heap.size := ⟨_, rfl⟩
  obtain ⟨w1, hw1⟩ : ∃ w1, w1 = w.alloc (.cells #[.string (strOf n), .int .u32 i] 38) := ⟨_, rfl⟩
  have hk1 : Keeps nowhere w w1 := by rw [hw1]; exact (Keeps.refl nowhere w).alloc _
  have hb1 : Blk w1 q 38 #[.string (strOf n), .int .u32 i] := by rw [hw1, hq]; exact Blk.new _ _ _
  have hn := name_any n hl w1
  unfold NameP at hn
  obtain ⟨e0, he0⟩ : ∃ e, e = nameE n := ⟨_, rfl⟩
  rw [← he0] at hn
  by_cases h0 : e0 = 0
  · subst h0
    have Hn := Lib.hid hn
    have He0 := Lib.hid he0
    have Hk1 := Lib.hid hk1
    have Hb1 := Lib.hid hb1
    have Hw1 := Lib.hid hw1
    have Hq := Lib.hid hq
    clear hn he0 hk1 hb1 hw1 hq
    go_enter Tryd.func25, Tryd.ntmps25
    go_upto_region 1 with fail
    rw [← Hw1.out]
    simp only [← Hq.out]
    have c0 := Hb1.out.cell 0
    simp at c0
    go_wp2_with fail
    refine Hn.out.mono ?_
    rintro e w2 ⟨rfl, hk2⟩
    have c1 := (Hb1.out.keep hk2 (fun h => h)).cell 1
    simp at c1
    have hkf := Hk1.out.more hk2
    clear hk2 c0
    by_cases hi : i = 0
    · have hiI : ((i : Int) == 0) = true := by simp [hi]
      have hm : mayE (n, i) = 1 := by unfold mayE; simp only; rw [← He0.out, if_pos rfl, if_pos hi]
      have Hm := Lib.hid hm
      have Hkf := Lib.hid hkf
      have Hi := Lib.hid hi
      clear hm hkf hi
      go_wp2_with fail
      go_ret
      exact ⟨by rw [Hm.out]; rfl, Hkf.out⟩
    · have hiI : ((i : Int) == 0) = false := by simp [hi]
      have hm : mayE (n, i) = 0 := by unfold mayE; simp only; rw [← He0.out, if_pos rfl, if_neg hi]
      have Hm := Lib.hid hm
      have Hkf := Lib.hid hkf
      have Hi := Lib.hid hi
      clear hm hkf hi
      go_wp2_with fail
      go_ret
      exact ⟨by rw [Hm.out]; rfl, Hkf.out⟩
  · have h0I : (e0 != 0) = true := by simp [h0]
    have hm : mayE (n, i) = e0 := by unfold mayE; simp only; rw [← he0, if_neg h0]
    have Hn := Lib.hid hn
    have He0 := Lib.hid he0
    have Hk1 := Lib.hid hk1
    have Hb1 := Lib.hid hb1
    have Hw1 := Lib.hid hw1
    have Hq := Lib.hid hq
    have Hm := Lib.hid hm
    clear hn he0 hk1 hb1 hw1 hq hm
    go_enter Tryd.func25, Tryd.ntmps25
    go_upto_region 1 with fail
    rw [← Hw1.out]
    simp only [← Hq.out]
    have c0 := Hb1.out.cell 0
    simp at c0
    go_wp2_with fail
    refine Hn.out.mono ?_
    rintro e w2 ⟨rfl, hk2⟩
    go_wp2_with fail
    go_ret
    exact ⟨by rw [Hm.out]; rfl, Hk1.out.more hk2⟩
def cmpS (a b : List UInt8) : Int := if Go.Op.bytesLess a b = true then -1 else if a = b then 0 else 1
theorem nan_any (a : List UInt8) (w : World) : Calls Tryd.prog 83 #[.string (strOf a)] w fun e w' => e = .returned (.bool false) ∧ w' = w := by
  go_enter Tryd.func83, Tryd.ntmps83
  go_wp2
  go_ret
  exact ⟨by simp, rfl⟩
theorem cmp_any (a b : List UInt8) (w : World) : Calls Tryd.prog 55 #[.string (strOf a), .string (strOf b)] w fun e w' => e = .returned (.int .i64 (cmpS a b)) ∧ w' = w := by
  have ha := fun w => nan_any a w
  have hb := fun w => nan_any b w
  have Ha := Lib.hid ha
  have Hb := Lib.hid hb
  clear ha hb
  by_cases h1 : Go.Op.bytesLess a b = true
  · have hc : cmpS a b = -1 := by unfold cmpS; rw [if_pos h1]
    rw [hc]
    clear hc
    go_enter Tryd.func55, Tryd.ntmps55
    go_wp2_with fail
    refine (Ha.out w).mono ?_
    rintro e w1 ⟨rfl, rfl⟩
    go_wp2_with fail
    refine (Hb.out _).mono ?_
    rintro e w2 ⟨rfl, rfl⟩
    go_wp2_with fail
    go_ret
    exact ⟨rfl, rfl⟩
  · have h1F : Go.Op.bytesLess a b = false := by simpa using h1
    by_cases h2 : a = b
    · have hc : cmpS a b = 0 := by unfold cmpS; rw [if_neg h1, if_pos h2]
      have h2T : (a == b) = true := by simp [h2]
      have h2N : (!(Go.Op.bytesLess a b || a == b)) = false := by rw [h1F, h2T]; rfl
      rw [hc]
      clear hc h2
      go_enter Tryd.func55, Tryd.ntmps55
      go_wp2_with fail
      refine (Ha.out w).mono ?_
      rintro e w1 ⟨rfl, rfl⟩
      go_wp2_with fail
      refine (Hb.out _).mono ?_
      rintro e w2 ⟨rfl, rfl⟩
      go_wp2_with fail
      go_ret
      exact ⟨rfl, rfl⟩
    · have hc : cmpS a b = 1 := by unfold cmpS; rw [if_neg h1, if_neg h2]
      have h2F : (a == b) = false := by simp [h2]
      have h2N : (!(Go.Op.bytesLess a b || a == b)) = true := by rw [h1F, h2F]; rfl
      rw [hc]
      clear hc
      go_enter Tryd.func55, Tryd.ntmps55
      go_wp2_with fail
      refine (Ha.out w).mono ?_
      rintro e w1 ⟨rfl, rfl⟩
      go_wp2_with fail
      refine (Hb.out _).mono ?_
      rintro e w2 ⟨rfl, rfl⟩
      go_wp2_with fail
      go_ret
      exact ⟨rfl, rfl⟩
theorem ecompare_any (x : EntV) (b : List UInt8) (w : World) : Calls Tryd.prog 26 #[entV x, .string (strOf b)] w fun e w' => e = .returned (.int .i64 (cmpS x.1 b)) ∧ Keeps nowhere w w' := by
  obtain ⟨n, i⟩ := x
  unfold entV
  simp only
  have hc := fun w => cmp_any n b w
  have hka := (Keeps.refl nowhere w).alloc (.cells #[.string (strOf n), .int .u32 i] 38)
  have Hc := Lib.hid hc
  have Hka := Lib.hid hka
  clear hc hka
  go_enter Tryd.func26, Tryd.ntmps26
  go_wp2_with fail
  refine (Hc.out _).mono ?_
  rintro e w1 ⟨rfl, rfl⟩
  go_wp2_with fail
  go_ret
  exact ⟨rfl, Hka.out⟩
end Go.Proofs.YtnlmdfbjmhcilaaDoor
/-
  entry: slices.BinarySearchFunc; Find.
-/
namespace Go.Proofs.YtnlmdfbjmhcilaaDoor
open Go.RowKit Go.Proofs
attribute [local go_sem] strOf_size strOf_get strOf_toList

abbrev ltS (a b : List UInt8) : Bool := Go.Op.bytesLess a b
def posL (l : List EntV) (t : List UInt8) : Nat := (l.takeWhile fun x => ltS x.1 t).length
def hasL (l : List EntV) (t : List UInt8) : Bool := ((l[posL l t]?).map fun x => decide (x.1 = t)).getD false
/-- what is less stands ahead -/
def Mono (l : List EntV) (t : List UInt8) : Prop := ∀ (i j : Nat) (x y : EntV), i < j → l[i]? = some x → l[j]? = some y → ltS y.1 t = true → ltS x.1 t = true
theorem posL_is {t : List UInt8} : ∀ (l : List EntV) (i : Nat), i ≤ l.length → (∀ (k : Nat) (x : EntV), k < i → l[k]? = some x → ltS x.1 t = true) → (∀ x : EntV, l[i]? = some x → ltS x.1 t = false) → posL l t = i
  | [], i, h, _, _ => by simp at h; subst h; rfl
  | x :: l, 0, _, _, h2 => by
    have := h2 x rfl
    unfold posL
    rw [List.takeWhile_cons, this]; rfl
  | x :: l, i + 1, h, h1, h2 => by
    have hx := h1 0 x (by omega) rfl
    have ih := posL_is l i (by simpa using h) (fun k y hk hy => h1 (k + 1) y (by omega) hy) (fun y hy => h2 y hy)
    unfold posL at ih ⊢
    rw [List.takeWhile_cons, hx]
    simp only [if_true, List.length_cons]
    omega
def BsP (l : List EntV) (t : List UInt8) (w : World) : Ending → World → Prop := fun e w' => e = .returned (.tuple #[.int .i64 (posL l t), .bool (hasL l t)]) ∧ Keeps nowhere w w'
theorem BsP.is {l : List EntV} {t : List UInt8} {w w' : World} {i : Nat} {b : Bool} (h1 : posL l t = i) (h2 : hasL l t = b) (hk : Keeps nowhere w w') : BsP l t w (.returned (.tuple #[.int .i64 i, .bool b])) w' := ⟨by rw [h1, h2], hk⟩
theorem ltS_irrefl (a : List UInt8) : ltS a a = false := by
  induction a with
  | nil => rfl
  | cons x l ih => unfold ltS at ih ⊢; unfold Go.Op.bytesLess; simp [ih]
theorem rdE_cells {w : World} {A : Option Addr} {n c : Nat} {g : Option Nat} {l : List EntV} (h : recE.Rd w (.slice A n c) g l) (hp : 0 < l.length) : ∃ b o, A = some ⟨b, o, none⟩ ∧ b < w.heap.size ∧ ∀ (w' : World), Keeps nowhere w w' → ∀ (i : Nat) (x : EntV), l[i]? = some x → w'.cell? ⟨b, o + i * 2, none⟩ = some (.string (strOf x.1)) ∧ w'.cell? ⟨b, o + i * 2 + 1, none⟩ = some (.int .u32 x.2) := by
  obtain ⟨A', c', hv, -, -, hu, h3, -⟩ := h
  injection hv with h1 _ _
  obtain ⟨b, o, hA, hg, hc⟩ := h3 hp
  refine ⟨b, o, h1.trans hA, hu b hg, fun w' hk i x hx => ?_⟩
  have h := hc i x hx
  have e0 := h 0 (by decide)
  have e1 := h 1 (by decide)
  rw [show i * recE.n = i * 2 from rfl] at e0 e1
  exact ⟨(hk.cell (p := ⟨b, o + i * 2, none⟩) (hu b hg) (fun h => h)).trans e0, (hk.cell (p := ⟨b, o + i * 2 + 1, none⟩) (hu b hg) (fun h => h)).trans e1⟩
set_option maxRecDepth 20000 in
set_option maxHeartbeats 8000000 in
theorem bs_any (A : Option Addr) (c : Nat) (g : Option Nat) (l : List EntV) (t : List UInt8) (w : World) (hr : recE.Rd w (.slice A l.length c) g l) (hl : l.length ≤ 100000000) (hm : Mono l t) :
    Calls Tryd.prog 33 #[.slice A l.length c, .string (strOf t), .func (.func 26) #[] #[]] w (BsP l t w) := by
  obtain ⟨n, hn⟩ : ∃ n, n = l.length := ⟨_, rfl⟩
  have hx := fun hp => rdE_cells hr hp
  rw [← hn] at hl ⊢
  have Hr := Lib.hid hr
  have Hn := Lib.hid hn
  have Hm := Lib.hid hm
  have Hx := Lib.hid hx
  clear hr hn hm hx
  go_enter Tryd.func33, Tryd.ntmps33
  go_wp2_with fail
  go_loopw [9, 10] (fun iv jv wr => ∃ i j : Nat, iv = .int .i64 i ∧ jv = .int .i64 j ∧ i ≤ j ∧ j ≤ n ∧ (∀ (k : Nat) (x : EntV), k < i → l[k]? = some x → ltS x.1 t = true) ∧ (∀ (k : Nat) (x : EntV), j ≤ k → l[k]? = some x → ltS x.1 t = false) ∧ Keeps nowhere w wr) (fun iv jv _ => (intOf jv).toNat - (intOf iv).toNat)
  case atStart => exact ⟨0, n, rfl, rfl, Nat.zero_le _, Nat.le_refl _, (fun k x h => by omega), (fun k x h hx => by rw [List.getElem?_eq_none (by rw [← Hn.out]; exact h)] at hx; cases hx), Keeps.refl _ _⟩
  case round =>
    obtain ⟨i, j, rfl, rfl, hij, hjn, h1, h2, hk⟩ := hrel
    by_cases hlt : i < j
    · have hltI : (i : Int) < j := by omega
      have hsum : IntKind.i64.wrap ((i : Int) + j) = ((i + j : Nat) : Int) := by rw [IntWalk.i64_in _ (by omega)]; omega
      obtain ⟨h, hh⟩ : ∃ h, h = (i + j) / 2 := ⟨_, rfl⟩
      have hu : IntKind.u64.wrap ((i + j : Nat) : Int) = ((i + j : Nat) : Int) := by rw [IntKind.wrap_u64]; omega
      have hhI : ((i + j : Nat) : Int) / 2 = (h : Int) := by omega
      have hhI2 : ((i : Int) + j) / 2 = (h : Int) := by omega
      have hhN : (i + j) / 2 = h := by omega
      have hi64 : IntKind.i64.wrap (h : Int) = h := IntWalk.i64_in _ (by omega)
      have hh0 : (0 : Int) ≤ (h : Int) := by omega
      have hhn : (h : Int) < n := by omega
      have hh1 : IntKind.i64.wrap ((h : Int) + 1) = h + 1 := IntWalk.i64_in _ (by omega)
      obtain ⟨x, hxx⟩ : ∃ x, l[h]? = some x := ⟨_, List.getElem?_eq_getElem (by rw [← Hn.out]; omega)⟩
      obtain ⟨b, o, hA, hb, hcells⟩ := Hx.out (by rw [← Hn.out]; omega)
      obtain ⟨c0, c1⟩ := hcells wr hk h x hxx
      subst hA
      have hc := ecompare_any x t wr
      unfold entV at hc
      clear hcells
      cases hls : ltS x.1 t with
      | true =>
        have hcm : cmpS x.1 t = -1 := by unfold cmpS; rw [if_pos hls]
        rw [hcm] at hc
        have h1' : ∀ (k : Nat) (y : EntV), k < h + 1 → l[k]? = some y → ltS y.1 t = true := fun k y hk' hy => by
          by_cases e : k < h
          · exact Hm.out k h y x e hy hxx hls
          · have : k = h := by omega
            subst this
            rw [hxx] at hy
            have hy := Option.some.inj hy
            rw [← hy]; exact hls
        clear h1
        have Hc := Lib.hid hc
        have H1' := Lib.hid h1'
        have H2 := Lib.hid h2
        have Hk := Lib.hid hk
        have Hls := Lib.hid hls
        have Hcm := Lib.hid hcm
        have Hxx := Lib.hid hxx
        have Hh := Lib.hid hh
        clear hc h1' h2 hk hls hcm hxx hh
        go_wp2_with fail
        refine Hc.out.mono ?_
        rintro e w2 ⟨rfl, hk2⟩
        have hk3 := Hk.out.more hk2
        clear hk2 c0 c1
        have Hk3 := Lib.hid hk3
        clear hk3
        go_wp2_with fail
        go_roundw
        case rel => exact ⟨h + 1, j, by simp, rfl, by have := Hh.out; omega, hjn, H1'.out, H2.out, Hk3.out⟩
        case measure => have := Hh.out; simp [intOf]; omega
      | false =>
        have hcm : ¬ cmpS x.1 t < 0 := by unfold cmpS; rw [if_neg (by simp [hls])]; split <;> omega
        obtain ⟨m, hm2⟩ : ∃ m, m = cmpS x.1 t := ⟨_, rfl⟩
        rw [← hm2] at hc hcm
        have h2' : ∀ (k : Nat) (y : EntV), h ≤ k → l[k]? = some y → ltS y.1 t = false := fun k y hk' hy => by
          by_cases e : h < k
          · cases hy2 : ltS y.1 t with
            | false => rfl
            | true => rw [Hm.out h k x y e hxx hy hy2] at hls; cases hls
          · have : k = h := by omega
            subst this
            rw [hxx] at hy
            have hy := Option.some.inj hy
            rw [← hy]; exact hls
        clear h2
        have Hc := Lib.hid hc
        have H2' := Lib.hid h2'
        have H1 := Lib.hid h1
        have Hk := Lib.hid hk
        have Hls := Lib.hid hls
        have Hm2 := Lib.hid hm2
        have Hxx := Lib.hid hxx
        have Hh := Lib.hid hh
        clear hc h2' h1 hk hls hm2 hxx hh
        go_wp2_with fail
        refine Hc.out.mono ?_
        rintro e w2 ⟨rfl, hk2⟩
        have hk3 := Hk.out.more hk2
        clear hk2 c0 c1
        have Hk3 := Lib.hid hk3
        clear hk3
        go_wp2_with fail
        go_roundw
        case rel => exact ⟨i, h, rfl, rfl, by have := Hh.out; omega, by have := Hh.out; omega, H1.out, H2'.out, Hk3.out⟩
        case measure => have := Hh.out; simp [intOf]; omega
    · obtain rfl : i = j := by omega
      have hiI : ¬ (i : Int) < i := by omega
      have hp : posL l t = i := posL_is l i (by rw [← Hn.out]; exact hjn) h1 (fun x hx => h2 i x (Nat.le_refl _) hx)
      by_cases hin : i < n
      · have hinI : (i : Int) < n := by omega
        have hi0 : (0 : Int) ≤ (i : Int) := by omega
        obtain ⟨x, hxx⟩ : ∃ x, l[i]? = some x := ⟨_, List.getElem?_eq_getElem (by rw [← Hn.out]; omega)⟩
        obtain ⟨b, o, hA, hb, hcells⟩ := Hx.out (by rw [← Hn.out]; omega)
        obtain ⟨c0, c1⟩ := hcells wr hk i x hxx
        subst hA
        have hc := ecompare_any x t wr
        unfold entV at hc
        have hls := h2 i x (Nat.le_refl _) hxx
        have hb2 : hasL l t = (cmpS x.1 t == 0) := by
          unfold hasL cmpS
          rw [hp, hxx, if_neg (by simp [hls])]
          simp only [Option.map_some, Option.getD_some]
          by_cases e : x.1 = t <;> simp [e]
        obtain ⟨m, hm2⟩ : ∃ m, m = cmpS x.1 t := ⟨_, rfl⟩
        rw [← hm2] at hc hb2
        clear hcells h1 h2
        have Hc := Lib.hid hc
        have Hk := Lib.hid hk
        have Hls := Lib.hid hls
        have Hm2 := Lib.hid hm2
        have Hxx := Lib.hid hxx
        have Hb2 := Lib.hid hb2
        have Hp := Lib.hid hp
        clear hc hk hls hm2 hxx hb2 hp
        go_wp2_with fail
        refine Hc.out.mono ?_
        rintro e w2 ⟨rfl, hk2⟩
        go_wp2_with fail
        go_ret2
        exact BsP.is Hp.out Hb2.out (Hk.out.more hk2)
      · obtain rfl : i = n := by omega
        have hb2 : hasL l t = false := by unfold hasL; rw [hp, List.getElem?_eq_none (by rw [← Hn.out]; exact Nat.le_refl _)]; rfl
        clear h1 h2
        have Hk := Lib.hid hk
        have Hb2 := Lib.hid hb2
        have Hp := Lib.hid hp
        clear hk hb2 hp
        go_wp2_with fail
        go_ret2
        exact BsP.is Hp.out Hb2.out Hk.out
end Go.Proofs.YtnlmdfbjmhcilaaDoor
/-
  entry: Find; slices.Clip, Clone at entries.
-/
namespace Go.Proofs.YtnlmdfbjmhcilaaDoor
open Go.RowKit Go.Proofs
attribute [local go_sem] strOf_size strOf_get strOf_toList

def findN (l : List EntV) (t : List UInt8) : Nat := if hasL l t = true then ((l[posL l t]?).map (·.2)).getD 0 else 0
def FindP (l : List EntV) (t : List UInt8) (w : World) : Ending → World → Prop := fun e w' => e = .returned (.tuple #[.int .u32 (findN l t), .bool (hasL l t)]) ∧ Keeps nowhere w w'
theorem FindP.is {l : List EntV} {t : List UInt8} {w w' : World} {i : Nat} {b : Bool} (h1 : findN l t = i) (h2 : hasL l t = b) (hk : Keeps nowhere w w') : FindP l t w (.returned (.tuple #[.int .u32 i, .bool b])) w' := ⟨by rw [h1, h2], hk⟩
set_option maxHeartbeats 2000000 in
theorem find_any (A : Option Addr) (c : Nat) (g : Option Nat) (l : List EntV) (t : List UInt8) (w : World) (hr : recE.Rd w (.slice A l.length c) g l) (hl : l.length ≤ 100000000) (hm : Mono l t) :
    Calls Tryd.prog 19 #[.slice A l.length c, .string (strOf t)] w (FindP l t w) := by
  have hb := bs_any A c g l t w hr hl hm
  unfold BsP at hb
  have hx := fun hp => rdE_cells hr hp
  obtain ⟨i, hi⟩ : ∃ i, i = posL l t := ⟨_, rfl⟩
  obtain ⟨n, hn⟩ : ∃ n, n = l.length := ⟨_, rfl⟩
  rw [← hi] at hb
  rw [← hn] at hb hl ⊢
  cases hh : hasL l t with
  | false =>
    have hf : findN l t = 0 := by unfold findN; rw [hh]; rfl
    rw [hh] at hb
    have Hb := Lib.hid hb
    have Hx := Lib.hid hx
    have Hi := Lib.hid hi
    have Hn := Lib.hid hn
    have Hh := Lib.hid hh
    have Hf := Lib.hid hf
    have Hr := Lib.hid hr
    have Hm := Lib.hid hm
    clear hb hx hi hn hh hf hr hm
    go_enter Tryd.func19, Tryd.ntmps19
    go_wp2_with fail
    refine Hb.out.mono ?_
    rintro e w1 ⟨rfl, hk1⟩
    go_wp2_with fail
    go_ret2
    exact FindP.is (i := 0) Hf.out Hh.out hk1
  | true =>
    obtain ⟨x, hxx⟩ : ∃ x, l[i]? = some x := by
      unfold hasL at hh
      rw [← hi] at hh
      cases h : l[i]? with
      | none => rw [h] at hh; cases hh
      | some x => exact ⟨x, rfl⟩
    have hin : i < n := by rw [hn]; exact (List.getElem?_eq_some_iff.1 hxx).1
    have hinI : (i : Int) < n := by omega
    have hi0 : (0 : Int) ≤ (i : Int) := by omega
    have hf : findN l t = x.2 := by unfold findN; rw [hh, if_pos rfl, ← hi, hxx]; rfl
    obtain ⟨b, o, hA, hbl, hcells⟩ := hx (by omega)
    subst hA
    rw [hh] at hb
    have Hb := Lib.hid hb
    have Hx := Lib.hid hx
    have Hi := Lib.hid hi
    have Hn := Lib.hid hn
    have Hh := Lib.hid hh
    have Hf := Lib.hid hf
    have Hr := Lib.hid hr
    have Hm := Lib.hid hm
    have Hcells := Lib.hid hcells
    have Hxx := Lib.hid hxx
    clear hb hx hi hn hh hf hr hm hcells hxx
    go_enter Tryd.func19, Tryd.ntmps19
    go_wp2_with fail
    refine Hb.out.mono ?_
    rintro e w1 ⟨rfl, hk1⟩
    obtain ⟨c0, c1⟩ := Hcells.out w1 hk1 i x Hxx.out
    go_wp2_with fail
    go_ret2
    exact FindP.is Hf.out Hh.out hk1
theorem eclip_any (v : Value) (l : List EntV) (w : World) (hr : recE.Row w v l) : Calls Tryd.prog 34 #[v] w fun e w' => ∃ A, e = .returned (.slice A l.length l.length) ∧ recE.Rd w' (.slice A l.length l.length) v.ownBlock l ∧ w' = w := by
  have hrd := hr.rd
  obtain ⟨A, c, rfl, h1, h2, h4⟩ := hr.form
  have hRd : recE.Rd w (.slice A l.length l.length) (Value.ownBlock (.slice A l.length c)) l := by
    obtain ⟨A', c', hv, k1, k2, k3, k4, k5⟩ := hrd
    injection hv with e1 e2 e3
    subst e1 e3
    exact ⟨A, l.length, rfl, Nat.le_refl _, by omega, k3, k4, fun h => by have := k5 h; omega⟩
  have h1' : (l.length : Int) ≤ c := by omega
  clear h4
  obtain ⟨L, hL⟩ : ∃ L, L = l.length := ⟨_, rfl⟩
  rw [← hL] at hRd h1' h1 ⊢
  have Hr := Lib.hid hr
  have Hrd := Lib.hid hrd
  have HRd := Lib.hid hRd
  have HL := Lib.hid hL
  clear hr hrd hRd hL
  go_enter Tryd.func34, Tryd.ntmps34
  go_wp2_with fail
  go_ret
  exact ⟨_, rfl, HRd.out, rfl⟩
def RetRowE (w : World) (l : List EntV) : Ending → World → Prop := fun e w' => ∃ v', e = .returned v' ∧ recE.Row w' v' l ∧ Above w.heap.size v'.ownBlock ∧ Keeps nowhere w w'
set_option maxHeartbeats 1000000 in
theorem eclone_any (v : Value) (g : Option Nat) (l : List EntV) (w : World) (hr : recE.Rd w v g l) (hb : l.length ≤ 100000000) : Calls Tryd.prog 36 #[v] w (RetRowE w l) := by
  have q22 := fun (w : World) (a : Option Addr) (n c n' c' : Nat) => Lib.run_eql_slice_nil (P := Tryd.prog) w 22 38 a n c n' c' Tryd.underlying22
  have hr0 := hr
  obtain ⟨A, cap, rfl, h1, h2, hu, h3, h4⟩ := hr
  cases A with
  | none =>
    have h0 := h4 rfl
    have hl : l = [] := List.eq_nil_of_length_eq_zero (by omega)
    subst hl
    subst h0
    clear hr0 h3 h4 hu
    go_enter Tryd.func36, Tryd.ntmps36
    go_wp2
    go_ret
    exact ⟨_, rfl, RecT.Row.nil _ _, Above.none _, Keeps.refl _ _⟩
  | some a =>
    have hka : Keeps nowhere w (w.alloc (.cells #[] 38)) := (Keeps.refl nowhere w).alloc _
    have hrow0 : recE.Row (w.alloc (.cells #[] 38)) (.slice (some ⟨w.heap.size, 0, none⟩) 0 0) [] := RecT.Row.empty recE w
    have hrd := hr0.same hka
    have hlb : ([] : List EntV).length + l.length ≤ 100000000 := by simpa using hb
    obtain ⟨n, hn⟩ : ∃ n, n = l.length := ⟨_, rfl⟩
    rw [← hn] at hrd h1 ⊢
    clear h3 h4 hu hr0
    have Hka := Lib.hid hka
    have Hrow0 := Lib.hid hrow0
    have Hrd := Lib.hid hrd
    have Hlb := Lib.hid hlb
    have Hn := Lib.hid hn
    clear hka hrow0 hrd hlb hn
    go_enter Tryd.func36, Tryd.ntmps36
    go_wp2_with (at_builtin; go_must (refine RecT.wpList_append (R := recE) Tryd.underlying22 infoE rfl (by decide) rfl (.tmp 5) (.tmp 6) rfl _ [] rfl Hrow0.out _ _ l rfl Hrd.out Hlb.out ?_))
    intro v' w' hrow hk hf
    try rw [List.nil_append] at hrow
    have hab : Above w.heap.size v'.ownBlock := fun b hb => by
      rcases hf b hb with h | h
      · simp [Value.ownBlock] at h; omega
      · have := Hka.out.size; (try simp at this); (try simp at h); omega
    have hk2 : Keeps nowhere w w' := Hka.out.trans hk (fun b hb e => by simp [Value.ownBlock] at e; omega)
    clear hk hf
    have Hrow := Lib.hid hrow
    have Hab := Lib.hid hab
    have Hk2 := Lib.hid hk2
    clear hrow hab hk2
    go_wp2_with fail
    go_ret
    exact ⟨v', rfl, Hrow.out, Hab.out, Hk2.out⟩
end Go.Proofs.YtnlmdfbjmhcilaaDoor
/-
  Records: copy; append of made records that grows. No program in sight.
-/
namespace Go.Proofs.YtnlmdfbjmhcilaaDoor
open Go.RowKit

/-- a list with others written over it from a place on -/
def cpyL (L : List Value) (off : Nat) (cs : List Value) : List Value := L.take off ++ cs ++ L.drop (off + cs.length)
section
variable {P : Program}
theorem run_copy_row_n (w : World) (dT sT ty elem : TypeId) (n g o dLen dCap : Nat) (a : Addr) (sLen sCap : Nat) (cur : Array Value) (t : TypeId) (cs : List Value)
    (hu : P.underlying dT = some (.slice elem)) (hs : (P.info? elem).map (·.size) = some n)
    (hg : w.heap[g]? = some (.cells cur t (0, 0))) (hn : cs.length = Nat.min sLen dLen * n)
    (hsrc : ∀ j v, cs[j]? = some v → w.cell? (a.add j) = some v) (hfit : o + cs.length ≤ cur.size) (h1 : ∀ v ∈ cs, v.oneCell' = true) :
    (Builtin.copy_ #[dT, sT] ty #[.slice (some ⟨g, o, none⟩) dLen dCap, .slice (some a) sLen sCap]).run P w =
      .ok (goInt (Nat.min sLen dLen)) (w.setRow g (cur.toList.take o ++ cs ++ cur.toList.drop (o + cs.length)).toArray) := by
  have hl := run_loadCells_list (P := P) w a cs hsrc
  have hst := run_storeCells_at P g o t cs 0 cur w hg (by simpa using hfit) h1
  cases hq : P.info? elem with
  | none => simp [hq] at hs
  | some i =>
    have hi : i.size = n := by simpa [hq] using hs
    simp [Builtin.copy_, run_underlying hu, Builtin.lenOf, Builtin.firstCells, sizeOf, typeInfo, hq, hi, ← hn, hl, hst]
variable {α : Type} (R : RecT α)
theorem RecT.wpList_copy {ops : Array Oper} {rest : List Oper} {o : Oper} {a : Act} {w : World} {Q : Exit → Act → World → Prop} {ts : TypeId}
    (ht : P.underlying ts = some (.slice R.t)) (hsz : (P.info? R.t).map (·.size) = some R.n)
    (hgd : o.guard = none) (d s : Operand) (ho : o.op = .call { callee := .builtin .copy, args := #[d, s], argTypes := #[ts, ts] })
    (g off dLen dCap : Nat) (ad : Addr) (sLen sCap : Nat) (hd : a.eval d = .slice (some ⟨g, off, none⟩) dLen dCap) (hs : a.eval s = .slice (some ad) sLen sCap)
    (L : List Value) (hg : Blk w g R.t L.toArray) (cs : List Value) (hn : cs.length = Nat.min sLen dLen * R.n) (hsrc : ∀ j v, cs[j]? = some v → w.cell? (ad.add j) = some v)
    (hfit : off + cs.length ≤ L.length) (h1 : ∀ v ∈ cs, v.oneCell' = true)
    (h : ∀ w', Blk w' g R.t (cpyL L off cs).toArray → Keeps (only g) w w' → wpList P ops Q rest (a.put o.dst (goInt (Nat.min sLen dLen))) w') : wpList P ops Q (o :: rest) a w := by
  have hr := run_copy_row_n (P := P) w ts ts o.type R.t R.n g off dLen dCap ad sLen sCap L.toArray R.t cs ht hsz hg hn hsrc (by simpa using hfit) h1
  refine wpList_plain hgd fun K hK => ?_
  unfold Oper.wp execOp
  simp only [ho, resolve, invoke, builtin, Sem.run_bind, Sem.run_pure, Result.andThen_ok, List.map_toArray, List.map_cons, List.map_nil, hd, hs, hr]
  refine hK _ _ (h _ (setRow_heap w g _ _ R.t _ hg) ⟨rfl, rfl, rfl, by simp [World.setRow], fun k _ hk => setRow_other w g k _ (fun e => hk e)⟩)
theorem run_append_grow_mk (w : World) (t tn ty e : TypeId) (i : TypeInfo) (z : Value) (k kn : IntKind) (ht : P.underlying t = some (.slice e)) (htn : P.underlying tn = some (.int kn)) (hi : P.info? e = some i) (hz : i.zero = some z)
    (b : Addr) (sLen sCap : Nat) (olds : List Value) (hlo : olds.length = sLen * i.size) (holds : ∀ j v, olds[j]? = some v → w.cell? (b.add j) = some v)
    (n : Nat) (h0 : 0 < n) (hs : 0 < i.size) (hg : sCap < sLen + n) (h63 : ((sLen + n : Nat) : Int) ≤ 9223372036854775807) (hfit : Builtin.nextslicecap (sLen + n) sCap * i.bytes ≤ 281474976710656) (h48 : n * i.bytes ≤ 281474976710656) :
    (Builtin.append_ #[t, tn] ty #[.slice (some b) sLen sCap, .int k n]).run P w =
      .ok (.slice (some ⟨w.heap.size, 0, none⟩) (sLen + n) (grownCap w (sLen + n) sCap e))
        (w.drew.alloc (.cells (olds.toArray ++ Builtin.zeroCells z.cells n ++ Builtin.zeroCells z.cells (grownCap w (sLen + n) sCap e - (sLen + n))) e)) := by
  have hn : ¬ (sLen + n ≤ sCap) := by omega
  have hw : IntKind.i64.wrap (n : Int) = n := by rw [IntKind.wrap_i64]; omega
  have hneg : ¬ ((n : Int) < 0) := by omega
  have hns : ¬ (n * i.size = 0) := Nat.mul_ne_zero (by omega) (by omega)
  have h63' : ¬ (9223372036854775807 < ((sLen : Int) + (n : Int))) := by omega
  have h48' : ¬ (281474976710656 < Builtin.nextslicecap (sLen + n) sCap * i.bytes) := by omega
  have h48i : ¬ (281474976710656 < (n : Int) * (i.bytes : Int)) := by
    rw [← Int.natCast_mul]
    omega
  have hfo := run_firstCells_some (P := P) w.drew i.size sLen b sLen sCap olds hlo (by simpa using holds)
  simp [Builtin.append_, run_underlying ht, run_underlying htn, sizeOf, typeInfo, zeroValue, hi, hz, asInt, asIntOf, hw, hn, hneg, hns, h63', h48', h48i, Question.forced, hfo, newRow, grownCap]
  try (congr 2; apply Array.ext'; simp [List.append_assoc])
theorem RecT.wpList_append_make {ops : Array Oper} {rest : List Oper} {o : Oper} {a : Act} {w : World} {Q : Exit → Act → World → Prop} {ts tn : TypeId} {z : Value} {by_ : Nat} {kn : IntKind}
    (ht : P.underlying ts = some (.slice R.t)) (htn : P.underlying tn = some (.int kn)) (hinfo : (P.info? R.t).map (fun i => (i.zero, i.size, i.bytes)) = some (some z, R.n, by_)) (hz : z.cells.size = R.n) (hby : by_ ≤ 1000000)
    (hgd : o.guard = none) (s x : Operand) (ho : o.op = .call { callee := .builtin .append, args := #[s, x], argTypes := #[ts, tn] })
    (b : Addr) (l : List α) (sLen sCap n : Nat) (hs : a.eval s = .slice (some b) sLen sCap) (hx : a.eval x = .int .i64 n) (hl : l.length = sLen) (hc : ∀ j u, (R.cells l)[j]? = some u → w.cell? (b.add j) = some u)
    (h0 : 0 < n) (hg : sCap < sLen + n) (hb : sLen + n ≤ 100000000)
    (h : ∀ w' cap rest', sLen + n ≤ cap → cap ≤ maxLen → rest'.length = (cap - sLen) * R.n → Blk w' w.heap.size R.t (R.cells l ++ rest').toArray → Keeps nowhere w w' → wpList P ops Q rest (a.put o.dst (.slice (some ⟨w.heap.size, 0, none⟩) (sLen + n) cap)) w') : wpList P ops Q (o :: rest) a w := by
  obtain ⟨i0, hi, hz0, hz1, hz2⟩ := info_parts hinfo
  have hbig : (sLen + n) * i0.bytes ≤ 100000000 * 1000000 := by rw [hz2]; exact Nat.mul_le_mul hb hby
  have hbig2 : n * i0.bytes ≤ 100000000 * 1000000 := by rw [hz2]; exact Nat.mul_le_mul (by omega) hby
  have hp := R.pos
  have hr := run_append_grow_mk (P := P) w ts tn o.type R.t i0 z .i64 kn ht htn hi hz0 b sLen sCap (R.cells l) (by rw [hz1, RecT.cells_len, hl]) hc n h0 (by omega) hg (by omega) (growslice_fits (by omega) (by omega)) (by omega)
  have hge := grownCap_ge w (sLen + n) sCap R.t
  have hle := grownCap_le_maxLen w (sLen + n) sCap R.t (by unfold maxLen; omega)
  refine Lib.wpList_append_run w hgd s x ts tn ho _ _ hs hx _ _ hr ?_
  refine h _ _ ((Builtin.zeroCells z.cells n).toList ++ (Builtin.zeroCells z.cells (grownCap w (sLen + n) sCap R.t - (sLen + n))).toList) hge hle ?_ ?_ (((Keeps.refl nowhere w).drew).alloc _)
  · have h1 : (Builtin.zeroCells z.cells n).size = n * z.cells.size := size_zeroCells _ _
    have h2 : (Builtin.zeroCells z.cells (grownCap w (sLen + n) sCap R.t - (sLen + n))).size = (grownCap w (sLen + n) sCap R.t - (sLen + n)) * z.cells.size := size_zeroCells _ _
    rw [List.length_append, Array.length_toList, Array.length_toList, h1, h2, hz, ← Nat.add_mul]
    congr 1
    omega
  · have := heap_alloc_new w.drew (.cells ((R.cells l).toArray ++ Builtin.zeroCells z.cells n ++ Builtin.zeroCells z.cells (grownCap w (sLen + n) sCap R.t - (sLen + n))) R.t)
    unfold Blk
    rw [show (R.cells l ++ ((Builtin.zeroCells z.cells n).toList ++ (Builtin.zeroCells z.cells (grownCap w (sLen + n) sCap R.t - (sLen + n))).toList)).toArray = (R.cells l).toArray ++ Builtin.zeroCells z.cells n ++ Builtin.zeroCells z.cells (grownCap w (sLen + n) sCap R.t - (sLen + n)) by apply Array.ext'; simp]
    exact this
theorem dropA {β : Type} (A B : List β) (k j : Nat) (h : k = A.length + j) : (A ++ B).drop k = B.drop j := by
  subst h
  simp
theorem RecT.ins_room (l : List α) (rest : List Value) (i : Nat) (x : α) (hi : i < l.length) :
    cpyL (cpyL (R.cells l ++ rest) ((i + 1) * R.n) (R.cells (l.drop i))) (i * R.n) (R.cs x) = R.cells (l.take i ++ x :: l.drop i) ++ rest.drop R.n := by
  unfold cpyL
  have h1 : (R.cells l).length = l.length * R.n := RecT.cells_len _ l
  have h2 : (R.cells (l.drop i)).length = (l.length - i) * R.n := by rw [RecT.cells_len, List.length_drop]
  have hle : (i + 1) * R.n ≤ l.length * R.n := Nat.mul_le_mul_right _ hi
  have hs : i * R.n + R.n = (i + 1) * R.n := (Nat.succ_mul _ _).symm
  have hsum : (i + 1) * R.n + (l.length - i) * R.n = l.length * R.n + R.n := by rw [← Nat.add_mul, ← Nat.succ_mul]; congr 1; omega
  have ht : ((R.cells l ++ rest).take ((i + 1) * R.n)).length = (i + 1) * R.n := by rw [List.length_take, List.length_append, h1]; omega
  have e1 : ((R.cells l ++ rest).take ((i + 1) * R.n) ++ R.cells (l.drop i) ++ (R.cells l ++ rest).drop ((i + 1) * R.n + (R.cells (l.drop i)).length)).take (i * R.n) = R.cells (l.take i) := by
    rw [List.append_assoc, List.take_append_of_le_length (by omega), List.take_take, Nat.min_eq_left (by omega), List.take_append_of_le_length (by omega), RecT.cells_take]
  have e2 : ((R.cells l ++ rest).take ((i + 1) * R.n) ++ R.cells (l.drop i) ++ (R.cells l ++ rest).drop ((i + 1) * R.n + (R.cells (l.drop i)).length)).drop (i * R.n + (R.cs x).length) = R.cells (l.drop i) ++ rest.drop R.n := by
    rw [R.len, hs, List.append_assoc, dropA _ _ _ 0 (by omega), List.drop_zero, h2, hsum, dropA _ _ _ R.n (by omega)]
  rw [e1, e2, RecT.cells_app]
  simp [RecT.cells]
theorem RecT.ins_grow (l : List α) (rest : List Value) (i : Nat) (x : α) (hi : i ≤ l.length) :
    cpyL (cpyL (R.cells (l.take i) ++ rest) (i * R.n) (R.cs x)) ((i + 1) * R.n) (R.cells (l.drop i)) = R.cells (l.take i ++ x :: l.drop i) ++ rest.drop (R.n + (l.length - i) * R.n) := by
  unfold cpyL
  have h1 : (R.cells (l.take i)).length = i * R.n := by rw [RecT.cells_len, List.length_take, Nat.min_eq_left hi]
  have h2 : (R.cells (l.drop i)).length = (l.length - i) * R.n := by rw [RecT.cells_len, List.length_drop]
  have e0 : (R.cells (l.take i) ++ rest).take (i * R.n) ++ R.cs x ++ (R.cells (l.take i) ++ rest).drop (i * R.n + (R.cs x).length) = (R.cells (l.take i) ++ R.cs x) ++ rest.drop R.n := by
    rw [List.take_append_of_le_length (by omega), List.take_of_length_le (by omega), R.len, dropA _ _ _ R.n (by omega)]
  have h3 : (R.cells (l.take i) ++ R.cs x).length = (i + 1) * R.n := by rw [List.length_append, h1, R.len, Nat.succ_mul]
  rw [e0, List.take_append_of_le_length (by omega), List.take_of_length_le (by omega), dropA _ _ _ ((l.length - i) * R.n) (by omega), List.drop_drop, RecT.cells_app]
  have e3 : R.cells (x :: l.drop i) = R.cs x ++ R.cells (l.drop i) := by simp [RecT.cells]
  rw [e3]
  simp only [List.append_assoc]
end
end Go.Proofs.YtnlmdfbjmhcilaaDoor
/-
  slices.Insert of one record (written by wip/gen_ins.py).
-/
namespace Go.Proofs.YtnlmdfbjmhcilaaDoor
open Go.RowKit Go.Proofs

def einsL (l : List EntV) (i : Nat) (x : EntV) : List EntV := l.take i ++ x :: l.drop i
def eInsP (v : Value) (l : List EntV) (i : Nat) (x : EntV) (w : World) : Ending → World → Prop := fun e w' => ∃ v', e = .returned v' ∧ recE.Row w' v' (einsL l i x) ∧ From v.ownBlock w.heap.size v'.ownBlock ∧ Keeps (fun b => v.ownBlock = some b) w w'
theorem esize : (Tryd.prog.info? 38).map (·.size) = some 2 := by kernel_rfl
theorem eone_rd {w : World} {vb : Nat} {x : EntV} (h : Blk w vb 38 (recE.cs x).toArray) : recE.Rd w (.slice (some ⟨vb, 0, none⟩) 1 1) (some vb) [x] := by
  refine ⟨_, 1, rfl, Nat.le_refl _, by decide, fun b hb => (by cases hb; exact h.lt), fun _ => ⟨vb, 0, rfl, rfl, fun i t hi k hk => ?_⟩, fun h => by cases h⟩
  have : i = 0 := by have := (List.getElem?_eq_some_iff.1 hi).1; simp at this; exact this
  subst this
  simp at hi
  subst hi
  rw [h.cell]
  simp
set_option maxRecDepth 20000 in
set_option maxHeartbeats 8000000 in
/-- at the end -/
theorem eins_end (v : Value) (l : List EntV) (x : EntV) (vb : Nat) (w : World) (hr : recE.Row w v l) (hx : Blk w vb 38 (recE.cs x).toArray) (hb : l.length ≤ 10000000) :
    Calls Tryd.prog 35 #[v, .int .i64 l.length, .slice (some ⟨vb, 0, none⟩) 1 1] w (eInsP v l l.length x w) := by
  obtain ⟨A, c, hv, h1, h2, h4⟩ := hr.form
  unfold maxLen at h2
  have hins : einsL l l.length x = l ++ [x] := by unfold einsL; simp
  have hlb : l.length + ([x] : List EntV).length ≤ 100000000 := by simp; omega
  have hrx := eone_rd hx
  obtain ⟨n, hn⟩ : ∃ n, n = l.length := ⟨_, rfl⟩
  rw [← hn] at hins hv ⊢
  have hnc : (n : Int) ≤ c := by omega
  have hnn : (0 : Int) ≤ n := by omega
  rw [hv] at hr
  have hgoal : ∀ e w', eInsP (.slice A n c) l n x w e w' → eInsP v l n x w e w' := fun e w' h => by rw [hv]; exact h
  rw [hv]
  clear hgoal hv h4
  by_cases hcn : c = n
  · subst hcn
    have Hr := Lib.hid hr
    have Hx := Lib.hid hx
    have Hins := Lib.hid hins
    have Hlb := Lib.hid hlb
    have Hrx := Lib.hid hrx
    have Hn := Lib.hid hn
    clear hr hx hins hlb hrx hn
    go_enter Tryd.func35, Tryd.ntmps35
    go_wp2_with (at_builtin; go_must (refine RecT.wpList_append (R := recE) Tryd.underlying22 infoE rfl (by decide) rfl (.tmp 23) (.tmp 24) rfl _ l rfl Hr.out _ _ [x] rfl Hrx.out Hlb.out ?_))
    intro v' w' hrow hk hf
    have Hrow := Lib.hid hrow
    have Hk := Lib.hid hk
    have Hf := Lib.hid hf
    clear hrow hk hf
    go_wp2_with fail
    go_ret
    exact ⟨v', rfl, by rw [Hins.out]; exact Hrow.out, Hf.out, Hk.out⟩
  · have hx0 := hcn
    have Hr := Lib.hid hr
    have Hx := Lib.hid hx
    have Hins := Lib.hid hins
    have Hlb := Lib.hid hlb
    have Hrx := Lib.hid hrx
    have Hn := Lib.hid hn
    clear hr hx hins hlb hrx hn
    go_enter Tryd.func35, Tryd.ntmps35
    go_wp2_with (at_builtin; go_must (refine RecT.wpList_append (R := recE) Tryd.underlying22 infoE rfl (by decide) rfl (.tmp 23) (.tmp 24) rfl _ l rfl Hr.out _ _ [x] rfl Hrx.out Hlb.out ?_))
    intro v' w' hrow hk hf
    have Hrow := Lib.hid hrow
    have Hk := Lib.hid hk
    have Hf := Lib.hid hf
    clear hrow hk hf
    go_wp2_with fail
    go_ret
    exact ⟨v', rfl, by rw [Hins.out]; exact Hrow.out, Hf.out, Hk.out⟩
theorem eins_cells (l : List EntV) (i : Nat) (x : EntV) : recE.cells (einsL l i x) = recE.cells (l.take i) ++ ((recE.cs x) ++ recE.cells (l.drop i)) := by
  unfold einsL
  rw [RecT.cells_app]
  rfl
set_option maxRecDepth 20000 in
set_option maxHeartbeats 8000000 in
/-- in the midst, and there is room -/
theorem eins_room (l : List EntV) (i b c : Nat) (x : EntV) (vb : Nat) (w : World) (hr : recE.Row w (.slice (some ⟨b, 0, none⟩) l.length c) l) (hx : Blk w vb 38 (recE.cs x).toArray) (hne : b ≠ vb) (hi : i < l.length) (hc : l.length < c) (hb : l.length ≤ 10000000) :
    Calls Tryd.prog 35 #[.slice (some ⟨b, 0, none⟩) l.length c, .int .i64 i, .slice (some ⟨vb, 0, none⟩) 1 1] w (eInsP (.slice (some ⟨b, 0, none⟩) l.length c) l i x w) := by
  rcases hr.blk with ⟨h, -⟩ | ⟨b', c', rest, hv, hbk, hrl, hcl, hcm⟩
  · cases h
  injection hv with e1 e2 e3
  injection e1 with e1
  injection e1 with e1
  subst e1 e3
  unfold maxLen at hcm
  obtain ⟨n, hn⟩ : ∃ n, n = l.length := ⟨_, rfl⟩
  have hnI : ((i : Int) == (n : Int)) = false := by rw [beq_eq_false_iff_ne]; omega
  have hi0 : (0 : Int) ≤ i := by omega
  have hin : (i : Int) ≤ n := by omega
  have hn1 : IntKind.i64.wrap ((n : Int) + 1) = ((n + 1 : Nat) : Int) := by rw [IntWalk.i64_in _ (by omega)]; omega
  have hn1c : ((n + 1 : Nat) : Int) ≤ c := by omega
  have hnotgt : ¬ (c : Int) < ((n + 1 : Nat) : Int) := by omega
  have hci : ¬ c = i := by omega
  have hi1 : IntKind.i64.wrap ((i : Int) + 1) = ((i + 1 : Nat) : Int) := by rw [IntWalk.i64_in _ (by omega)]; omega
  have hci1 : ¬ c = i + 1 := by omega
  have hpos : (recE.cells l ++ rest).toArray.size ≠ 0 := by
    have := RecT.cells_len (R := recE) l
    have hN : recE.n = 2 := rfl
    rw [List.size_toArray, List.length_append, this, hN]
    omega
  have hov : ∀ o lb cb, (callFunc 63 #[.slice (some ⟨vb, 0, none⟩) 1 1, .slice (some ⟨b, o, none⟩) lb cb]).run Tryd.prog w = .ok (.value (.bool false)) w := fun o lb cb => by
    rw [run_callFunc_extern Tryd.func63 (by kernel_rfl) (by kernel_rfl) (by kernel_rfl) (e := Extern.SlicesOverlaps.overlaps #[22, 22] #[4]) (by kernel_rfl),
      Lib.run_overlaps_apart w 22 4 38 Tryd.underlying22 2 (fun _ => by kernel_rfl) ⟨vb, 0, none⟩ ⟨b, o, none⟩ 1 1 lb cb (fun e => hne e.symm) 38 38 (recE.cs x).toArray.size (recE.cells l ++ rest).toArray.size (by have := hx; unfold Blk at this; simp [World.shape?, this]) (by have := hbk; unfold Blk at this; rw [show recE.t = 38 from rfl] at this; simp [World.shape?, this]) hpos (hx.frozen 0) (hx.frozen _)]
    rfl
  rw [← hn] at hr ⊢
  have Hr := Lib.hid hr
  have Hx := Lib.hid hx
  have Hn := Lib.hid hn
  have Hbk := Lib.hid hbk
  have Hrl := Lib.hid hrl
  clear hr hx hn hbk hrl
  go_enter Tryd.func35, Tryd.ntmps35
  go_wp2_with (simp only [hov])
  have hbk1 : Blk w.drew b recE.t (recE.cells l ++ rest).toArray := Hbk.out.drew
  have hcl0 := RecT.cells_len (R := recE) l
  have hN : recE.n = 2 := rfl
  have hdl : (recE.cells (l.drop i)).length = (n - i) * 2 := by rw [RecT.cells_len, List.length_drop, Hn.out, hN]
  have hrl := Hrl.out
  rw [hN] at hrl hcl0
  have hsrc1 : ∀ j v, (recE.cells (l.drop i))[j]? = some v → w.drew.cell? ((⟨b, i * 2, none⟩ : Addr).add j) = some v := fun j v hj => by
    rw [Addr.add_lit, hbk1.cell, List.getElem?_toArray, List.getElem?_append_left (by have := (List.getElem?_eq_some_iff.1 hj).1; have := Hn.out; omega)]
    rw [← RecT.cells_drop, List.getElem?_drop, hN] at hj
    exact hj
  have hfit1 : (i + 1) * 2 + (recE.cells (l.drop i)).length ≤ (recE.cells l ++ rest).length := by rw [List.length_append, hdl]; have := Hn.out; omega
  have hn1' : (recE.cells (l.drop i)).length = Nat.min (n + 1 - i) (n - i) * recE.n := by rw [hdl, hN]; congr 1; simp only [Nat.min_def]; split <;> omega
  clear hcl0
  have Hbk1 := Lib.hid hbk1
  have Hdl := Lib.hid hdl
  have Hsrc1 := Lib.hid hsrc1
  have Hfit1 := Lib.hid hfit1
  have Hn1' := Lib.hid hn1'
  have Hrl := Lib.hid hrl
  have HN := Lib.hid hN
  clear hbk1 hdl hsrc1 hfit1 hn1' hrl hN
  refine wp_region_script [0, 1, 2, 3, 4, 5] [] [.ps [0, 1, 2], .ps [3, 4, 5], .es [6, 7, 8] false] (fun _ => True) rfl (by kernel_rfl) ?_
  refine wpS_ps rfl fun K hK => ?_
  simp only [List.map_cons, List.map_nil, Option.getD_some, List.getElem?_toArray, List.getElem?_cons_zero, List.getElem?_cons_succ]
  iterate 3 (first | (apply quietO_cons _ rfl; (intro w' _; go_simp; rfl)) | apply quietO_skip rfl)
  refine hK _ ?_
  clear hK K
  simp only [Act.put, List.setIfInBounds_toArray, List.set_cons_zero, List.set_cons_succ]
  refine wpS_ps rfl fun K hK => ?_
  simp only [List.map_cons, List.map_nil, Option.getD_some, List.getElem?_toArray, List.getElem?_cons_zero, List.getElem?_cons_succ]
  iterate 3 (first | (apply quietO_cons _ rfl; (intro w' _; go_simp; rfl)) | apply quietO_skip rfl)
  refine hK _ ?_
  clear hK K
  simp only [Act.put, List.setIfInBounds_toArray, List.set_cons_zero, List.set_cons_succ]
  refine wpS_es rfl fun K hK => ?_
  have HK := Lib.hid hK
  clear hK
  simp only [List.map_cons, List.map_nil, Option.getD_some, List.getElem?_toArray, List.getElem?_cons_zero, List.getElem?_cons_succ]
  go_wp2_with (refine RecT.wpList_copy recE Tryd.underlying22 esize rfl (.tmp 73) (.tmp 76) rfl b ((i + 1) * 2) (n - i) _ ⟨b, i * 2, none⟩ (n + 1 - i) _ rfl rfl _ Hbk1.out _ Hn1'.out Hsrc1.out Hfit1.out (RecT.cells_one _ _) ?_)
  intro w1 hb1 hk1
  have Hb1 := Lib.hid hb1
  have Hk1 := Lib.hid hk1
  clear hb1 hk1
  go_wp2_with fail
  refine HK.out _ _ (fun h => by cases h) ?_
  clear HK K
  refine wpS_nil ?_
  have hx1 : Blk w1 vb recE.t (recE.cs x).toArray := (Hx.out.drew).keep Hk1.out (fun e => hne e.symm)
  have hcl1 : (cpyL (recE.cells l ++ rest) ((i + 1) * 2) (recE.cells (l.drop i))).length = (recE.cells l ++ rest).length := by
    have := Hfit1.out
    unfold cpyL
    rw [List.length_append, List.length_append, List.length_take, List.length_drop]
    omega
  have hsrc2 : ∀ j v, (recE.cs x)[j]? = some v → w1.cell? ((⟨vb, 0, none⟩ : Addr).add j) = some v := fun j v hj => by
    rw [Addr.add_lit, hx1.cell, List.getElem?_toArray, Nat.zero_add]
    exact hj
  have hxl : (recE.cs x).length = 2 := recE.len x
  have hfit2 : i * 2 + (recE.cs x).length ≤ (cpyL (recE.cells l ++ rest) ((i + 1) * 2) (recE.cells (l.drop i))).length := by
    rw [hcl1, hxl]
    have h1 := RecT.cells_len (R := recE) l
    rw [List.length_append, h1, HN.out]
    have := Hn.out
    omega
  have hn2' : (recE.cs x).length = Nat.min 1 (n + 1 - i) * recE.n := by rw [hxl, HN.out]; simp only [Nat.min_def]; split <;> omega
  clear hov
  have Hx1 := Lib.hid hx1
  have Hcl1 := Lib.hid hcl1
  have Hsrc2 := Lib.hid hsrc2
  have Hxl := Lib.hid hxl
  have Hfit2 := Lib.hid hfit2
  have Hn2' := Lib.hid hn2'
  clear hx1 hcl1 hsrc2 hxl hfit2 hn2'
  go_wp2_with (refine RecT.wpList_copy recE Tryd.underlying22 esize rfl (.tmp 80) (.tmp 81) rfl b (i * 2) (n + 1 - i) _ ⟨vb, 0, none⟩ 1 _ rfl rfl _ Hb1.out _ Hn2'.out Hsrc2.out Hfit2.out (recE.one x) ?_)
  intro w2 hb2 hk2
  have hfin := RecT.ins_room recE l rest i x hi
  rw [HN.out] at hfin
  rw [hfin] at hb2
  have hins : einsL l i x = l.take i ++ x :: l.drop i := rfl
  have hil : (einsL l i x).length = n + 1 := by rw [hins, List.length_append, List.length_cons, List.length_take, List.length_drop, Hn.out]; omega
  have hrow : recE.Row w2 (.slice (some ⟨b, 0, none⟩) (n + 1) c) (einsL l i x) := by
    rw [← hil]
    refine RecT.Row.of_blk (rest := rest.drop 2) hb2 ?_ hcm
    rw [hil, List.length_drop, HN.out]
    have := Hrl.out
    have := Hn.out
    omega
  have hkk : Keeps (fun k => Value.ownBlock (.slice (some ⟨b, 0, none⟩) n c) = some k) w w2 := ((((Keeps.refl nowhere w).drew).mono (T := only b) (fun _ _ h => h.elim)).trans Hk1.out (fun _ _ e => e)).trans hk2 (fun _ _ e => e) |>.mono (fun k _ e => by have e : k = b := e; subst e; rfl)
  clear hk2 hb2 hfin
  have Hrow := Lib.hid hrow
  have Hkk := Lib.hid hkk
  have Hins := Lib.hid hins
  have Hil := Lib.hid hil
  clear hrow hkk hins hil
  go_wp2_with fail
  go_ret
  exact ⟨_, rfl, Hrow.out, From.refl _ _, Hkk.out⟩
set_option maxRecDepth 20000 in
set_option maxHeartbeats 8000000 in
/-- in the midst, and there is none -/
theorem eins_grow (l : List EntV) (i b : Nat) (x : EntV) (vb : Nat) (w : World) (hr : recE.Row w (.slice (some ⟨b, 0, none⟩) l.length l.length) l) (hx : Blk w vb 38 (recE.cs x).toArray) (hi : i < l.length) (hb : l.length ≤ 10000000) :
    Calls Tryd.prog 35 #[.slice (some ⟨b, 0, none⟩) l.length l.length, .int .i64 i, .slice (some ⟨vb, 0, none⟩) 1 1] w (eInsP (.slice (some ⟨b, 0, none⟩) l.length l.length) l i x w) := by
  obtain ⟨n, hn⟩ : ∃ n, n = l.length := ⟨_, rfl⟩
  have hrd := hr.rd
  have hcells := hrd.cells_
  have hnI : ((i : Int) == (n : Int)) = false := by rw [beq_eq_false_iff_ne]; omega
  have hi0 : (0 : Int) ≤ i := by omega
  have hin : (i : Int) ≤ n := by omega
  have hn1 : IntKind.i64.wrap ((n : Int) + 1) = ((n + 1 : Nat) : Int) := by rw [IntWalk.i64_in _ (by omega)]; omega
  have hgt : (n : Int) < ((n + 1 : Nat) : Int) := by omega
  have hni : ¬ n = i := by omega
  have hi1 : IntKind.i64.wrap ((i : Int) + 1) = ((i + 1 : Nat) : Int) := by rw [IntWalk.i64_in _ (by omega)]; omega
  obtain ⟨m, hm⟩ : ∃ m, m = n + 1 - i := ⟨_, rfl⟩
  have hmI : IntKind.i64.wrap (((n + 1 : Nat) : Int) - (i : Int)) = (m : Int) := by rw [IntWalk.i64_in _ (by omega)]; omega
  have hmI2 : IntKind.i64.wrap ((n : Int) + 1 - (i : Int)) = (m : Int) := by rw [IntWalk.i64_in _ (by omega)]; omega
  have hmI3 : ((n : Int) + 1 - (i : Int)) = (m : Int) := by omega
  have htl : (l.take i).length = i := by rw [List.length_take]; omega
  have hct : ∀ j u, (recE.cells (l.take i))[j]? = some u → w.cell? ((⟨b, 0, none⟩ : Addr).add j) = some u := fun j u hj => by
    rw [← RecT.cells_take, List.getElem?_take] at hj
    split at hj
    · exact hcells j u hj
    · cases hj
  rw [← hn] at hr ⊢
  have hm0 : 0 < m := by omega
  have hgrow : n < i + m := by omega
  have hbb : i + m ≤ 100000000 := by omega
  have him : i + m = n + 1 := by omega
  have hnn : n ≤ 10000000 := by omega
  clear hrd
  have Hr := Lib.hid hr
  have Hx := Lib.hid hx
  have Hn := Lib.hid hn
  have Hm := Lib.hid hm
  have Htl := Lib.hid htl
  have Hct := Lib.hid hct
  have Hcells := Lib.hid hcells
  have Him := Lib.hid him
  clear hr hx hn hm htl hct hcells him
  go_enter Tryd.func35, Tryd.ntmps35
  go_wp2_with (at_builtin; go_must (refine RecT.wpList_append_make recE Tryd.underlying22 Tryd.underlying3 infoE rfl (by decide) rfl (.tmp 34) (.tmp 39) rfl ⟨b, 0, none⟩ (l.take i) i n m rfl rfl Htl.out Hct.out hm0 hgrow hbb ?_))
  intro w1 cap rest hcap hcm hrl hb1 hk1
  obtain ⟨q, hq⟩ : ∃ q, q = w.heap.size := ⟨_, rfl⟩
  rw [Him.out] at hcap ⊢
  simp only [← hq] at hb1 ⊢
  unfold maxLen at hcm
  have hci : ¬ cap = i := by omega
  have hci1 : ¬ cap = i + 1 := by omega
  have hin2 : (i : Int) ≤ ((n + 1 : Nat) : Int) := by omega
  have hc2 : ((n + 1 : Nat) : Int) ≤ cap := by omega
  have hN : recE.n = 2 := rfl
  have hxl : (recE.cs x).length = 2 := recE.len x
  rw [hN] at hrl
  have hx1 : Blk w1 vb recE.t (recE.cs x).toArray := Hx.out.keep hk1 (fun h => h)
  have hsrc1 : ∀ j v, (recE.cs x)[j]? = some v → w1.cell? ((⟨vb, 0, none⟩ : Addr).add j) = some v := fun j v hj => by
    rw [Addr.add_lit, hx1.cell, List.getElem?_toArray, Nat.zero_add]
    exact hj
  have hcl0 : (recE.cells (l.take i)).length = i * 2 := by rw [RecT.cells_len, Htl.out, hN]
  have hfit1 : i * 2 + (recE.cs x).length ≤ (recE.cells (l.take i) ++ rest).length := by
    rw [List.length_append, hcl0, hxl, hrl]
    omega
  have hn1' : (recE.cs x).length = Nat.min 1 (n + 1 - i) * recE.n := by rw [hxl, hN]; simp only [Nat.min_def]; split <;> omega
  have Hb1 := Lib.hid hb1
  have Hk1 := Lib.hid hk1
  have Hq := Lib.hid hq
  have Hrl := Lib.hid hrl
  have HN := Lib.hid hN
  have Hxl := Lib.hid hxl
  have Hx1 := Lib.hid hx1
  have Hsrc1 := Lib.hid hsrc1
  have Hcl0 := Lib.hid hcl0
  have Hfit1 := Lib.hid hfit1
  have Hn1' := Lib.hid hn1'
  clear hb1 hk1 hq hrl hN hxl hx1 hsrc1 hcl0 hfit1 hn1'
  go_wp2_with (refine RecT.wpList_copy recE Tryd.underlying22 esize rfl (.tmp 43) (.tmp 44) rfl q (i * 2) (n + 1 - i) _ ⟨vb, 0, none⟩ 1 _ rfl rfl _ Hb1.out _ Hn1'.out Hsrc1.out Hfit1.out (recE.one x) ?_)
  intro w2 hb2 hk2
  have hk02 : Keeps nowhere w w2 := Hk1.out.trans hk2 (fun k hk e => by have e : k = q := e; have := Hq.out; omega)
  have hcells2 : ∀ j u, (recE.cells l)[j]? = some u → w2.cell? ((⟨b, 0, none⟩ : Addr).add j) = some u := fun j u hj => by
    have h1 := Hcells.out j u hj
    have hbl : b < w.heap.size := Hr.out.lt b rfl
    rw [Addr.add_lit] at h1 ⊢
    exact (hk02.cell (p := ⟨b, 0 + j, none⟩) hbl (fun h => h)).trans h1
  have hcl1 : (cpyL (recE.cells (l.take i) ++ rest) (i * 2) (recE.cs x)).length = (recE.cells (l.take i) ++ rest).length := by
    have := Hfit1.out
    unfold cpyL
    rw [List.length_append, List.length_append, List.length_take, List.length_drop]
    omega
  have hdl : (recE.cells (l.drop i)).length = (n - i) * 2 := by rw [RecT.cells_len, List.length_drop, Hn.out, HN.out]
  have hsrc2 : ∀ j v, (recE.cells (l.drop i))[j]? = some v → w2.drew.cell? ((⟨b, i * 2, none⟩ : Addr).add j) = some v := fun j v hj => by
    rw [← RecT.cells_drop, List.getElem?_drop, HN.out] at hj
    have := hcells2 _ v hj
    rw [Addr.add_lit] at this ⊢
    rw [Nat.zero_add] at this
    exact this
  have hfit2 : (i + 1) * 2 + (recE.cells (l.drop i)).length ≤ (cpyL (recE.cells (l.take i) ++ rest) (i * 2) (recE.cs x)).length := by
    rw [hcl1, hdl, List.length_append, Hcl0.out, Hrl.out]
    omega
  have hn2' : (recE.cells (l.drop i)).length = Nat.min (n - i) (n - i) * recE.n := by rw [hdl, HN.out]; simp
  have hb2d := hb2.drew
  clear hcells2 hb2 hk2
  have Hk02 := Lib.hid hk02
  have Hcl1 := Lib.hid hcl1
  have Hdl := Lib.hid hdl
  have Hsrc2 := Lib.hid hsrc2
  have Hfit2 := Lib.hid hfit2
  have Hn2' := Lib.hid hn2'
  have Hb2d := Lib.hid hb2d
  clear hk02 hcl1 hdl hsrc2 hfit2 hn2' hb2d
  go_wp2_with fail
  refine wp_region_script [0, 1, 2, 3, 4, 5] [] [.ps [0, 1, 2], .ps [3, 4, 5], .es [6, 7, 8] false] (fun _ => True) rfl (by kernel_rfl) ?_
  refine wpS_ps rfl fun K hK => ?_
  simp only [List.map_cons, List.map_nil, Option.getD_some, List.getElem?_toArray, List.getElem?_cons_zero, List.getElem?_cons_succ]
  iterate 3 (first | (apply quietO_cons _ rfl; (intro w' _; go_simp; rfl)) | apply quietO_skip rfl)
  refine hK _ ?_
  clear hK K
  simp only [Act.put, List.setIfInBounds_toArray, List.set_cons_zero, List.set_cons_succ]
  refine wpS_ps rfl fun K hK => ?_
  simp only [List.map_cons, List.map_nil, Option.getD_some, List.getElem?_toArray, List.getElem?_cons_zero, List.getElem?_cons_succ]
  iterate 3 (first | (apply quietO_cons _ rfl; (intro w' _; go_simp; rfl)) | apply quietO_skip rfl)
  refine hK _ ?_
  clear hK K
  simp only [Act.put, List.setIfInBounds_toArray, List.set_cons_zero, List.set_cons_succ]
  refine wpS_es rfl fun K hK => ?_
  have HK := Lib.hid hK
  clear hK
  simp only [List.map_cons, List.map_nil, Option.getD_some, List.getElem?_toArray, List.getElem?_cons_zero, List.getElem?_cons_succ]
  go_wp2_with (refine RecT.wpList_copy recE Tryd.underlying22 esize rfl (.tmp 50) (.tmp 53) rfl q ((i + 1) * 2) (n - i) _ ⟨b, i * 2, none⟩ (n - i) _ rfl rfl _ Hb2d.out _ Hn2'.out Hsrc2.out Hfit2.out (RecT.cells_one _ _) ?_)
  intro w3 hb3 hk3
  have hfin := RecT.ins_grow recE l rest i x (by omega)
  rw [HN.out] at hfin
  rw [hfin] at hb3
  have hins : einsL l i x = l.take i ++ x :: l.drop i := rfl
  have hil : (einsL l i x).length = n + 1 := by rw [hins, List.length_append, List.length_cons, List.length_take, List.length_drop, Hn.out]; omega
  have hrow : recE.Row w3 (.slice (some ⟨q, 0, none⟩) (n + 1) cap) (einsL l i x) := by
    rw [← hil]
    refine RecT.Row.of_blk (rest := rest.drop (2 + (l.length - i) * 2)) hb3 ?_ hcm
    rw [hil, List.length_drop, HN.out, Hrl.out, ← Hn.out]
    omega
  have hkk : Keeps (fun k => Value.ownBlock (.slice (some ⟨b, 0, none⟩) n n) = some k) w w3 := ((Hk02.out.drew).trans hk3 (fun k hk e => by have e : k = q := e; have := Hq.out; omega)).mono (fun _ _ e => e.elim)
  have hfr : From (Value.ownBlock (.slice (some ⟨b, 0, none⟩) n n)) w.heap.size (Value.ownBlock (.slice (some ⟨q, 0, none⟩) (n + 1) cap)) := fun k e => .inr (by have e : some q = some k := e; injection e with e; have := Hq.out; omega)
  clear hk3 hb3 hfin
  have Hrow := Lib.hid hrow
  have Hkk := Lib.hid hkk
  have Hins := Lib.hid hins
  have Hil := Lib.hid hil
  have Hfr := Lib.hid hfr
  clear hrow hkk hins hil hfr
  go_wp2_with fail
  refine HK.out _ _ (fun h => by cases h) ?_
  clear HK K
  refine wpS_nil ?_
  go_wp2_with fail
  go_ret
  exact ⟨_, rfl, Hrow.out, Hfr.out, Hkk.out⟩
theorem eins_any (v : Value) (l : List EntV) (i : Nat) (x : EntV) (vb : Nat) (w : World) (hr : recE.Row w v l) (hx : Blk w vb 38 (recE.cs x).toArray) (hne : v.ownBlock ≠ some vb) (hi : i ≤ l.length) (hb : l.length ≤ 10000000) :
    Calls Tryd.prog 35 #[v, .int .i64 i, .slice (some ⟨vb, 0, none⟩) 1 1] w (eInsP v l i x w) := by
  by_cases hil : i = l.length
  · subst hil
    exact eins_end v l x vb w hr hx hb
  · rcases hr.blk with ⟨-, h⟩ | ⟨b, c, rest, rfl, -, -, hc, -⟩
    · subst h
      simp at hi hil
      omega
    · by_cases hcl : l.length < c
      · exact eins_room l i b c x vb w hr hx (fun e => hne (by rw [← e]; rfl)) (by omega) hcl hb
      · obtain rfl : c = l.length := by omega
        exact eins_grow l i b x vb w hr hx (by omega) hb
end Go.Proofs.YtnlmdfbjmhcilaaDoor
/-
  slices.Delete of one record (written by wip/gen_del.py).
-/
namespace Go.Proofs.YtnlmdfbjmhcilaaDoor
open Go.RowKit Go.Proofs

def eDelP (b cap : Nat) (l : List EntV) (w : World) : Ending → World → Prop := fun e w' => e = .returned (.slice (some ⟨b, 0, none⟩) l.length cap) ∧ recE.Row w' (.slice (some ⟨b, 0, none⟩) l.length cap) l ∧ Keeps (only b) w w'
set_option maxRecDepth 20000 in
set_option maxHeartbeats 4000000 in
theorem edelete_any (w : World) (b cap i : Nat) (l : List EntV) (hr : recE.Row w (.slice (some ⟨b, 0, none⟩) l.length cap) l) (hi : i < l.length) (hl : l.length ≤ 10000000) :
    Calls Tryd.prog 38 #[.slice (some ⟨b, 0, none⟩) l.length cap, .int .i64 i, .int .i64 (i + 1 : Nat)] w (eDelP b cap (l.eraseIdx i) w) := by
  have hel : (l.eraseIdx i).length = l.length - 1 := List.length_eraseIdx_of_lt hi
  have herase : l.take i ++ l.drop (i + 1) = l.eraseIdx i := by rw [List.eraseIdx_eq_take_drop_succ]
  have hN : recE.n = 2 := rfl
  have hcap : l.length ≤ cap ∧ cap ≤ maxLen := by
    obtain ⟨A, c, hv, h1, h2, _⟩ := hr.rd
    injection hv with _ _ hc
    subst hc
    exact ⟨h1, h2⟩
  have hcap2 : cap ≤ 9223372036854775807 := by have := hcap.2; unfold maxLen at this; omega
  have hblk := hr.blk
  have hpre : (w.drew).ownsRow 0 38 2 (.slice (some ⟨b, 0, none⟩) i cap) i (recE.cells (l.take i)) := by
    rcases hr.blk with ⟨h, _⟩ | ⟨b', cap', rest, hv, hb, h1, h2, h3⟩
    · cases h
    · injection hv with ha _ hc
      injection ha with ha
      injection ha with ha
      subst ha hc
      have hb' : Blk w b 38 (recE.cells (l.take i) ++ (recE.cells (l.drop i) ++ rest)).toArray := by
        rw [← List.append_assoc, ← RecT.cells_app, List.take_append_drop]; exact hb
      have hti : (l.take i).length = i := by simp; omega
      have := RecT.Row.of_blk (R := recE) (w := w) (l := l.take i) (cap := cap) hb' (by rw [List.length_append, RecT.cells_len, List.length_drop, hti]; rw [hN] at h1 ⊢; omega) h3
      unfold RecT.Row at this
      rw [hti] at this
      exact this.drew
  have hsrc : ∀ j u, (recE.cells (l.drop (i + 1)))[j]? = some u → w.drew.cell? ((⟨b, (i + 1) * 2, none⟩ : Addr).add j) = some u := fun j u hj => by
    rw [← RecT.cells_drop, List.getElem?_drop] at hj
    have := hr.rd.cells_ _ u hj
    rw [Addr.add_lit] at this ⊢
    rw [Nat.zero_add] at this
    exact this
  obtain ⟨i0, hin, hz0, hz1, hz2⟩ := info_parts infoE
  obtain ⟨L, hL⟩ : ∃ L, L = l.length := ⟨_, rfl⟩
  rw [← hL] at hi hl hcap hel ⊢
  have hi0 : (0 : Int) ≤ i := by omega
  have hi1 : (i : Int) ≤ i + 1 := by omega
  have hi2 : (i : Int) + 1 ≤ L := by omega
  have hi3 : (i : Int) ≤ cap := by omega
  have hi4 : (i : Int) + 1 ≤ cap := by omega
  have hi5 : ((i : Int) + 1).toNat = i + 1 := by omega
  have hi6 : ((i : Int) == (i : Int) + 1) = false := by simp; omega
  have hi7 : ¬ (i : Int) = (i : Int) + 1 := by omega
  have hsum : i + (L - (i + 1)) = L - 1 := by omega
  have hn : (recE.cells (l.drop (i + 1))).length = (L - (i + 1)) * 2 := by rw [RecT.cells_len, List.length_drop, hL, hN]
  have hs1 : ((L : Int) - 1).toNat = L - 1 := by omega
  have hcl : ¬ cap = L - 1 := by omega
  have hll : L - 1 ≤ L := by omega
  have hll1 : L - (L - 1) = 1 := by omega
  have hLc : (L : Int) ≤ cap := by omega
  have hL1c : ((L - 1 : Nat) : Int) ≤ L := by omega
  have hzz : ∀ u ∈ (.agg #[.string ⟨#[]⟩, .int .u32 0] : Value).cells.toList, u.oneCell' = true := by intro u hu; simp [Value.cells] at hu; rcases hu with rfl | rfl <;> rfl
  have HL := Lib.hid hL
  have Hblk := Lib.hid hblk
  have Hpre := Lib.hid hpre
  have Hsrc := Lib.hid hsrc
  have Hel := Lib.hid hel
  have Hn := Lib.hid hn
  have Herase := Lib.hid herase
  have HN := Lib.hid hN
  have Hzz := Lib.hid hzz
  clear hL hblk hpre hsrc hel hn herase hN hzz
  by_cases hcc : cap = i + 1
  · have hLi : L = i + 1 := by omega
    subst hcc
    subst hLi
    have hnil : l.drop (i + 1) = [] := List.drop_eq_nil_of_le (by rw [← HL.out]; exact Nat.le_refl _)
    have Hnil := Lib.hid hnil
    clear hnil
    go_enter Tryd.func38, Tryd.ntmps38
    go_wp2_with fail
    refine wp_region_script [0, 1, 2, 3] [] [.ps [0, 1, 2, 3], .es [4, 5, 6, 7] false] (fun _ => True) rfl (by kernel_rfl) ?_
    refine wpS_ps rfl fun K hK => ?_
    simp only [List.map_cons, List.map_nil, Option.getD_some, List.getElem?_toArray, List.getElem?_cons_zero, List.getElem?_cons_succ]
    iterate 4 (first | (apply quietO_cons _ rfl; (intro w' _; go_simp; rfl)) | apply quietO_skip rfl)
    refine hK _ ?_
    clear hK K
    simp only [Act.put, List.setIfInBounds_toArray, List.set_cons_zero, List.set_cons_succ]
    refine wpS_es rfl fun K hK => ?_
    have HK := Lib.hid hK
    clear hK
    simp only [List.map_cons, List.map_nil, Option.getD_some, List.getElem?_toArray, List.getElem?_cons_zero, List.getElem?_cons_succ]
    go_wp2_with (at_builtin; go_must (refine wpList_append_fits_any _ rfl (.tmp 22) (.tmp 25) 22 rfl 0 38 i0 2 Tryd.underlying22 hin hz1 b i (i + 1) (recE.cells (l.take i)) rfl Hpre.out (some ⟨b, 0, none⟩) 0 _ (recE.cells (l.drop (i + 1))) rfl (by rw [Hnil.out]; rfl) (fun h => by cases h) (fun ad h j u hj => by rw [Hnil.out] at hj; simp [RecT.cells] at hj) (RecT.cells_one _ _) (by omega) ?_))
    intro w1 hown hgrow
    have hrow : recE.Row w1 (.slice (some ⟨b, 0, none⟩) (l.eraseIdx i).length (i + 1)) (l.eraseIdx i) := by
      unfold RecT.Row
      rw [← Herase.out, RecT.cells_app, Herase.out, Hel.out]
      exact hown
    have hk1 : Keeps (only b) w w1 := (Keeps.refl (only b) w).drew.grown hgrow (fun k e _ => by cases e; rfl)
    obtain ⟨w2, hclear, hr2, hk2⟩ := RecT.Row.clear (P := Tryd.prog) (ts := 22) (z := .agg #[.string ⟨#[]⟩, .int .u32 0]) Tryd.underlying22 (fun _ => by kernel_rfl) rfl Hzz.out b (i + 1) 1 1 hrow (by omega) (by rw [Hel.out]; omega)
    have hk3 := hk1.trans hk2 (fun _ _ h => h)
    rw [Hel.out] at hclear hr2
    rw [HN.out] at hclear
    clear hown hgrow hrow hk1 hk2
    have Hr2 := Lib.hid hr2
    have Hk3 := Lib.hid hk3
    clear hr2 hk3
    simp at hclear
    go_wp2_with fail
    refine HK.out _ _ (fun h => by cases h) ?_
    clear HK K
    refine wpS_nil ?_
    go_wp2_with fail
    go_ret
    exact ⟨by rw [Hel.out]; rfl, by rw [Hel.out]; exact Hr2.out, Hk3.out⟩
  · go_enter Tryd.func38, Tryd.ntmps38
    go_wp2_with fail
    refine wp_region_script [0, 1, 2, 3] [] [.ps [0, 1, 2, 3], .es [4, 5, 6, 7] false] (fun _ => True) rfl (by kernel_rfl) ?_
    refine wpS_ps rfl fun K hK => ?_
    simp only [List.map_cons, List.map_nil, Option.getD_some, List.getElem?_toArray, List.getElem?_cons_zero, List.getElem?_cons_succ]
    iterate 4 (first | (apply quietO_cons _ rfl; (intro w' _; go_simp; rfl)) | apply quietO_skip rfl)
    refine hK _ ?_
    clear hK K
    simp only [Act.put, List.setIfInBounds_toArray, List.set_cons_zero, List.set_cons_succ]
    refine wpS_es rfl fun K hK => ?_
    have HK := Lib.hid hK
    clear hK
    simp only [List.map_cons, List.map_nil, Option.getD_some, List.getElem?_toArray, List.getElem?_cons_zero, List.getElem?_cons_succ]
    go_wp2_with (at_builtin; go_must (refine wpList_append_fits_any _ rfl (.tmp 22) (.tmp 25) 22 rfl 0 38 i0 2 Tryd.underlying22 hin hz1 b i cap (recE.cells (l.take i)) rfl Hpre.out (some ⟨b, (i + 1) * 2, none⟩) (L - (i + 1)) _ (recE.cells (l.drop (i + 1))) rfl Hn.out (fun h => by cases h) (fun ad h => by cases h; exact Hsrc.out) (RecT.cells_one _ _) (by omega) ?_))
    intro w1 hown hgrow
    have hrow : recE.Row w1 (.slice (some ⟨b, 0, none⟩) (l.eraseIdx i).length cap) (l.eraseIdx i) := by
      unfold RecT.Row
      rw [← Herase.out, RecT.cells_app, Herase.out, Hel.out]
      exact hown
    have hk1 : Keeps (only b) w w1 := (Keeps.refl (only b) w).drew.grown hgrow (fun k e _ => by cases e; rfl)
    obtain ⟨w2, hclear, hr2, hk2⟩ := RecT.Row.clear (P := Tryd.prog) (ts := 22) (z := .agg #[.string ⟨#[]⟩, .int .u32 0]) Tryd.underlying22 (fun _ => by kernel_rfl) rfl Hzz.out b cap 1 (cap - (L - 1)) hrow (by omega) (by rw [Hel.out]; omega)
    have hk3 := hk1.trans hk2 (fun _ _ h => h)
    rw [Hel.out] at hclear hr2
    rw [HN.out] at hclear
    clear hown hgrow hrow hk1 hk2
    have Hr2 := Lib.hid hr2
    have Hk3 := Lib.hid hk3
    clear hr2 hk3
    go_wp2_with fail
    refine HK.out _ _ (fun h => by cases h) ?_
    clear HK K
    refine wpS_nil ?_
    go_wp2_with fail
    go_ret
    exact ⟨by rw [Hel.out]; rfl, by rw [Hel.out]; exact Hr2.out, Hk3.out⟩
end Go.Proofs.YtnlmdfbjmhcilaaDoor
/-
  A slice literal of one record: the block that it lays. Plain words.
-/
namespace Go.Proofs.YtnlmdfbjmhcilaaDoor
open Go.RowKit
namespace RecT
theorem fold_sets (off : Nat) : ∀ (l : List Value) (k : Nat) (cs : Array Value), ((l.zipIdx k).foldl (fun cs p => cs.setIfInBounds (off + p.2) p.1) cs).toList = sets cs.toList (off + k) l
  | [], k, cs => rfl
  | u :: us, k, cs => by
    rw [List.zipIdx_cons, List.foldl_cons, fold_sets off us (k + 1), Array.toList_setIfInBounds]
    rfl
theorem fill_one {n : Nat} (v : Value) (cells : Array Value) (h1 : v.cells.size = n) (h2 : cells.size = n) : Instr.fill (fun i => some (i * n, n)) cells [(0, v)] = some v.cells := by
  unfold Instr.fill
  simp only [h1, h2, Nat.zero_mul, Nat.zero_add, Nat.lt_irrefl, gt_iff_lt, decide_false, Bool.or_false, ne_eq, not_true_eq_false]
  unfold Instr.fill
  simp only [Bool.false_eq_true, if_false, Option.some.injEq]
  apply Array.toList_inj.1
  have := fold_sets 0 v.cells.toList 0 cells
  have e := sets_app v.cells.toList [] cells.toList [] (by simp [h1, h2])
  simp only [List.nil_append, List.append_nil, List.length_nil] at e
  rw [Nat.add_zero, e] at this
  simp only [Nat.zero_add] at this
  rw [← this, ← Array.foldl_toList]
  simp
variable {α : Type} {R : RecT α}
theorem run_buildOne {P : Program} {ts : TypeId} {z : Value} {by_ : Nat} (ht : P.underlying ts = some (.slice R.t)) (hinfo : (P.info? R.t).map (fun i => (i.zero, i.size, i.bytes)) = some (some z, R.n, by_)) (hn : R.n ≤ 1000) (w : World) (v : Value) (x : α) (hv : v.cells = (R.cs x).toArray) :
    (Instr.buildSlice ts 1 #[(0, v)]).run P w = .ok (.slice (some ⟨w.heap.size, 0, none⟩) 1 1) (w.alloc (.cells (R.cs x).toArray R.t)) := by
  obtain ⟨i0, hi, hz0, hz1, hz2⟩ := info_parts hinfo
  have hp := R.pos
  have h1 : ¬ 1 * i0.size > 2 ^ 24 := by rw [hz1]; omega
  have h2 : ¬ 1 * i0.size = 0 := by rw [hz1]; omega
  have hf := fill_one (n := R.n) v ((Array.range (1 * i0.size)).map (fun j => z.cells[j % z.cells.size]!)) (by rw [hv]; simp [R.len]) (by simp [hz1])
  rw [hz1, Nat.one_mul] at h1 h2
  rw [hz1, Nat.one_mul] at hf
  simp [Instr.buildSlice, run_underlying ht, sizeOf, typeInfo, zeroValue, hi, hz0, hz1, h1, h2, hf, newRow, hv]
theorem wpList_buildOne {P : Program} {ops : Array Oper} {rest : List Oper} {o : Oper} {a : Act} {w : World} {Q : Exit → Act → World → Prop} {ts : TypeId} {z : Value} {by_ : Nat}
    (ht : P.underlying ts = some (.slice R.t)) (hinfo : (P.info? R.t).map (fun i => (i.zero, i.size, i.bytes)) = some (some z, R.n, by_)) (hn : R.n ≤ 1000)
    (hgd : o.guard = none) (s : Operand) (ho : o.op = .buildSlice ts 1 #[(0, s)]) (v : Value) (hs : a.eval s = v) (x : α) (hv : v.cells = (R.cs x).toArray)
    (h : wpList P ops Q rest (a.put o.dst (.slice (some ⟨w.heap.size, 0, none⟩) 1 1)) (w.alloc (.cells (R.cs x).toArray R.t))) : wpList P ops Q (o :: rest) a w :=
  wpList_plain hgd fun K hK => by
    unfold Oper.wp execOp
    simp only [ho, Sem.run_bind, List.map_toArray, List.map_cons, List.map_nil, hs, run_buildOne ht hinfo hn w v x hv, Result.andThen_ok]
    exact hK _ _ h
end RecT
end Go.Proofs.YtnlmdfbjmhcilaaDoor
/-
  A region that draws its order, by a script that parts where two operations that turn the world may come in either order. No program in sight.
-/
namespace Go.Proofs.YtnlmdfbjmhcilaaDoor
open Go.RowKit

inductive Sc where
  | done
  | fs (l : List Nat) (r : Sc)
  | ps (l : List Nat) (r : Sc)
  | es (l : List Nat) (nd : Bool) (r : Sc)
  | alt (i j : Nat) (ni nj : Bool) (ri rj : Sc)
def Sc.len : Sc → Nat
  | .done => 0
  | .fs l r => l.length + r.len
  | .ps l r => l.length + r.len
  | .es l _ r => l.length + r.len
  | .alt _ _ _ _ ri _ => ri.len + 1
def chkT (ops : Array Oper) (F W : List Nat) : Sc → Array Bool → Bool
  | .done, L => (Region.ready .any ops L).isEmpty
  | .fs l r, L => match chkF ops F W true l L with | some L' => chkT ops F W r L' | none => false
  | .ps l r, L => match chkF ops F W false l L with | some L' => chkT ops F W r L' | none => false
  | .es l nd r, L => !l.isEmpty && match chkE ops F W nd l L with | some L' => chkT ops F W r L' | none => false
  | .alt i j ni nj ri rj, L => Region.ready .any ops L == [i, j] && (!need ops F W (L.setIfInBounds i true) || ni) && (!need ops F W (L.setIfInBounds j true) || nj) && chkT ops F W ri (L.setIfInBounds i true) && chkT ops F W rj (L.setIfInBounds j true) && ri.len == rj.len
/-- the walk along such a script -/
def wpT (P : Program) (ops : Array Oper) (QN : Act → World → Prop) (Q : Exit → Act → World → Prop) : Sc → (World → Prop) → Act → World → Prop
  | .done, _, a, w => QN a w
  | .fs l r, S, a, w => ∃ S' : World → Prop, (∀ w, S' w → S w) ∧ S' w ∧ quietL P ops S' l (fun a' => wpT P ops QN Q r S' a' w) a
  | .ps l r, S, a, w => quietL P ops (fun _ => True) l (fun a' => wpT P ops QN Q r S a' w) a
  | .es l nd r, S, a, w => wpOps P ops (Exit.then (fun a' w' => (nd = true → S w') ∧ wpT P ops QN Q r S a' w') Q) l a w
  | .alt i j ni nj ri rj, S, a, w => wpOps P ops (Exit.then (fun a' w' => (ni = true → S w') ∧ wpT P ops QN Q ri S a' w') Q) [i] a w ∧ wpOps P ops (Exit.then (fun a' w' => (nj = true → S w') ∧ wpT P ops QN Q rj S a' w') Q) [j] a w
section
variable {P : Program} {ops : Array Oper} {Q : Exit → Act → World → Prop} {S : World → Prop}
theorem step_one {F W : List Nat} {nd : Bool} {n : Nat} {K : Act → World → Prop} {i : Nat} {L : Array Bool} {a : Act} {w : World} (hnd : (!need ops F W (L.setIfInBounds i true) || nd) = true)
    (hK : ∀ a' w', (need ops F W (L.setIfInBounds i true) = true → S w') → K a' w' → wpAnyN P ops Q S F W n (L.setIfInBounds i true) a' w')
    (h : wpOps P ops (Exit.then (fun a' w' => (nd = true → S w') ∧ K a' w') Q) [i] a w) : wpOp P ops Q i (fun a' w' => (need ops F W (L.setIfInBounds i true) = true → S w') ∧ wpAnyN P ops Q S F W n (L.setIfInBounds i true) a' w') a w := by
  rw [wpOps_cons] at h
  have hstep : wpOp P ops Q i (wpOps P ops (Exit.then (fun a' w' => (nd = true → S w') ∧ K a' w') Q) []) a w := by
    unfold wpOp at h ⊢
    cases ho : ops[i]? with
    | none => simp only [ho] at h ⊢; exact h
    | some o =>
      simp only [ho] at h ⊢
      by_cases hw : Region.wanted o (yielded ops a.tmps) = true
      · rw [if_pos hw] at h ⊢
        rcases h with h | ⟨h1, h2⟩
        · refine .inl ?_
          unfold Oper.wp at h ⊢
          generalize (execOp a.eval _).run P w = r at *
          cases r with
          | ok nx w' =>
            cases nx <;> simp only [Oper.upon] at h ⊢ <;> first | exact h | (refine Calls.mono h fun e w'' he => ?_; cases e <;> exact he)
          | halt x w' => cases x <;> simp only [Oper.upon] at h ⊢ <;> exact h
        · exact .inr ⟨h1, h2⟩
      · rw [if_neg hw] at h ⊢
        exact h
  refine wpOp_mono (fun a' w' h' => ?_) hstep
  simp only [wpOps, Exit.then] at h'
  have hS : need ops F W (L.setIfInBounds i true) = true → S w' := fun hn => by
    rw [hn] at hnd
    exact h'.1 (by simpa using hnd)
  exact ⟨hS, hK a' w' hS h'.2⟩
theorem script_T {F W : List Nat} {QN : Act → World → Prop} (hsel : Region.noSelect ops = true) (hQ : ∀ (i : Nat) (o : Oper), ops[i]? = some o → ∀ c a v w, Q (.panic c) (Act.put a o.dst v) w → Q (.panic c) a w) (hN : ∀ a w, QN a w → Q .normal a w) :
    ∀ (s : Sc) (S : World → Prop) (L : Array Bool) (a : Act) (w : World), chkT ops F W s L = true → Closed ops L → (need ops F W L = true → S w) → wpT P ops QN Q s S a w → wpAnyN P ops Q S F W s.len L a w
  | .done, S, L, a, w, hc, _, _, h => by
    simp only [chkT, List.isEmpty_iff] at hc
    exact ⟨hc, hN a w h⟩
  | .fs l r, S, L, a, w, hc, hcl, hS, h => by
    simp only [chkT] at hc
    split at hc
    · rename_i L' hL'
      obtain ⟨S', hS', hw, hq⟩ := h
      exact wpAnyN_mono hS' _ _ _ _ (script_F hsel hQ hw l L L' a hL' hcl (fun a' hcl' hK => script_T hsel hQ hN r S' L' a' w hc hcl' (fun _ => hw) hK) hq)
    · cases hc
  | .ps l r, S, L, a, w, hc, hcl, hS, h => by
    simp only [chkT] at hc
    split at hc
    · rename_i L' hL'
      exact script_P hsel hQ l L L' a hL' hcl hS (fun a' hcl' hS' hK => script_T hsel hQ hN r S L' a' w hc hcl' hS' hK) h
    · cases hc
  | .es l nd r, S, L, a, w, hc, hcl, hS, h => by
    simp only [chkT, Bool.and_eq_true, Bool.not_eq_true'] at hc
    obtain ⟨hne, hc⟩ := hc
    split at hc
    · rename_i L' hL'
      exact script_E l L L' a w hL' hcl (by intro e; rw [e] at hne; simp at hne) (fun a' w' hcl' hS' hK => script_T hsel hQ hN r S L' a' w' hc hcl' hS' hK) h
    · cases hc
  | .alt i j ni nj ri rj, S, L, a, w, hc, hcl, hS, h => by
    simp only [chkT, Bool.and_eq_true, beq_iff_eq] at hc
    obtain ⟨⟨⟨⟨⟨hr, h1⟩, h2⟩, h3⟩, h4⟩, h5⟩ := hc
    refine ⟨fun h0 => (by rw [hr] at h0; cases h0), fun k hk => ?_⟩
    have hk2 : k = i ∨ k = j := by rw [hr] at hk; simpa using hk
    rcases hk2 with rfl | rfl
    · exact step_one h1 (fun a' w' hS' hK => script_T hsel hQ hN ri S _ a' w' h3 (hcl.set hk) hS' hK) h.1
    · have := step_one (P := P) (Q := Q) (n := rj.len) h2 (fun a' w' hS' hK => script_T hsel hQ hN rj S _ a' w' h4 (hcl.set hk) hS' hK) h.2
      rw [← h5] at this
      exact this
/-- THE RULE -/
theorem wp_region_tree {id : Nat} {a : Act} {w : World} (F W : List Nat) (s : Sc) (S : World → Prop) (hm : P.follows .mixedOrders = true)
    (hc : (Region.noSelect ops && chkT ops F W s (Array.replicate ops.size false) && s.len == ops.size) = true)
    (h : wpT P ops (Q .normal) (NoPanic Q) s S a w.drew) : (Code.region id ops true).wp P Q a w := by
  simp only [Bool.and_eq_true, beq_iff_eq] at hc
  obtain ⟨⟨h1, h2⟩, h4⟩ := hc
  refine wp_region_noPanic (wp_region_any hm (wpAny_of_N (S := S) (F := F) (W := W) _ _ _ _ ?_))
  have h0 : need ops F W (Array.replicate ops.size false) = true → S w.drew := fun hn => by
    unfold need at hn
    obtain ⟨f, _, hf⟩ := List.any_eq_true.1 hn
    have : (Array.replicate ops.size false).getD f false = false := by
      rw [Array.getD_eq_getD_getElem?]
      by_cases hk : f < ops.size <;> simp [hk]
    rw [this] at hf
    cases hf
  have := script_T (P := P) (Q := NoPanic Q) h1 (fun _ _ _ c a v w h => h.elim) (fun a w h => h) s S _ a w.drew h2 (closed_start _) h0 h
  rw [h4] at this
  exact this
variable {QN : Act → World → Prop} {a : Act} {w : World} {l : List Nat} {r : Sc} {nd : Bool}
theorem wpT_ps (hl : l.all (fun i => (ops[i]?).isSome) = true) (h : ∀ K : Act → Prop, (∀ a', wpT P ops QN Q r S a' w → K a') → quietO P ops (fun _ => True) (l.map fun i => (ops[i]?).getD default) K a) : wpT P ops QN Q (.ps l r) S a w :=
  quietL_of_O l a hl (h _ fun _ h => h)
theorem wpT_fs (hl : l.all (fun i => (ops[i]?).isSome) = true) (hS : S w) (h : ∀ K : Act → Prop, (∀ a', wpT P ops QN Q r S a' w → K a') → quietO P ops S (l.map fun i => (ops[i]?).getD default) K a) : wpT P ops QN Q (.fs l r) S a w :=
  ⟨S, fun _ h => h, hS, quietL_of_O l a hl (h _ fun _ h => h)⟩
theorem wpT_es (hl : l.all (fun i => (ops[i]?).isSome) = true) (h : ∀ K : Act → World → Prop, (∀ a' w', (nd = true → S w') → wpT P ops QN Q r S a' w' → K a' w') → wpList P ops (Exit.then K Q) (l.map fun i => (ops[i]?).getD default) a w) : wpT P ops QN Q (.es l nd r) S a w :=
  wpOps_pick l a w hl (h _ fun _ _ h1 h2 => ⟨h1, h2⟩)
theorem wpT_alt {i j : Nat} {ni nj : Bool} {ri rj : Sc} (hi : [i].all (fun i => (ops[i]?).isSome) = true) (hj : [j].all (fun i => (ops[i]?).isSome) = true)
    (h1 : ∀ K : Act → World → Prop, (∀ a' w', (ni = true → S w') → wpT P ops QN Q ri S a' w' → K a' w') → wpList P ops (Exit.then K Q) ([i].map fun i => (ops[i]?).getD default) a w)
    (h2 : ∀ K : Act → World → Prop, (∀ a' w', (nj = true → S w') → wpT P ops QN Q rj S a' w' → K a' w') → wpList P ops (Exit.then K Q) ([j].map fun i => (ops[i]?).getD default) a w) : wpT P ops QN Q (.alt i j ni nj ri rj) S a w :=
  ⟨wpOps_pick _ a w hi (h1 _ fun _ _ h1 h2 => ⟨h1, h2⟩), wpOps_pick _ a w hj (h2 _ fun _ _ h1 h2 => ⟨h1, h2⟩)⟩
theorem wpT_done (h : QN a w) : wpT P ops QN Q .done S a w := h
end
end Go.Proofs.YtnlmdfbjmhcilaaDoor
/-
  entry: Put, Cut.
-/
namespace Go.Proofs.YtnlmdfbjmhcilaaDoor
open Go.RowKit Go.Proofs
attribute [local go_sem] strOf_size strOf_get strOf_toList

def putOk (l : List EntV) (x : EntV) : Int := if mayE x = 0 then (if hasL l x.1 = true then 7 else 0) else mayE x
def putL (l : List EntV) (x : EntV) : List EntV := if putOk l x = 0 then einsL l (posL l x.1) x else []
def RetE (l : List EntV) (k : Int) (w : World) : Ending → World → Prop := fun e w' => ∃ v g, e = .returned (.tuple #[v, .int .i64 k]) ∧ recE.Rd w' v g l ∧ Above w.heap.size g ∧ Keeps nowhere w w'
theorem RetE.no {l : List EntV} {k j : Int} {w w' : World} (hl : l = []) (hj : k = j) (hk : Keeps nowhere w w') : RetE l k w (.returned (.tuple #[.slice none 0 0, .int .i64 j])) w' :=
  ⟨_, none, by rw [hj], by rw [hl]; exact RecT.Rd.nil _ _, Above.none _, hk⟩
theorem RetE.yes {l : List EntV} {k j : Int} {w w' : World} {v : Value} {g : Option Nat} (hj : k = j) (hr : recE.Rd w' v g l) (ha : Above w.heap.size g) (hk : Keeps nowhere w w') : RetE l k w (.returned (.tuple #[v, .int .i64 j])) w' :=
  ⟨_, g, by rw [hj], hr, ha, hk⟩
theorem posL_le (l : List EntV) (t : List UInt8) : posL l t ≤ l.length := by
  unfold posL
  exact (List.takeWhile_sublist _).length_le
set_option maxRecDepth 20000 in
set_option maxHeartbeats 4000000 in
theorem put_any (A : Option Addr) (c : Nat) (g : Option Nat) (l : List EntV) (x : EntV) (w : World) (hr : recE.Rd w (.slice A l.length c) g l) (hl : l.length ≤ 1000000) (hx : x.1.length ≤ 1000000000) (hm : Mono l x.1) :
    Calls Tryd.prog 16 #[.slice A l.length c, entV x] w (RetE (putL l x) (putOk l x) w) := by
  obtain ⟨n, hn⟩ : ∃ n, n = l.length := ⟨_, rfl⟩
  obtain ⟨q, hq⟩ : ∃ q, q = w.heap.size := ⟨_, rfl⟩
  obtain ⟨w1, hw1⟩ : ∃ w1, w1 = w.alloc (.cells #[.string (strOf x.1), .int .u32 x.2] 38) := ⟨_, rfl⟩
  have hk1 : Keeps nowhere w w1 := by rw [hw1]; exact (Keeps.refl nowhere w).alloc _
  have hb1 : Blk w1 q 38 #[.string (strOf x.1), .int .u32 x.2] := by rw [hw1, hq]; exact Blk.new _ _ _
  have hmay := fun w => may_any x hx w
  unfold entV at hmay ⊢
  obtain ⟨m0, hm0⟩ : ∃ m, m = mayE x := ⟨_, rfl⟩
  unfold MayP at hmay
  rw [← hm0] at hmay
  by_cases z0 : m0 = 0
  · subst z0
    have hbs := fun w2 (hk : Keeps nowhere w w2) => bs_any A c g l x.1 w2 (hr.same hk) (by omega) hm
    unfold BsP at hbs
    obtain ⟨i, hi⟩ : ∃ i, i = posL l x.1 := ⟨_, rfl⟩
    have hil : i ≤ l.length := by rw [hi]; exact posL_le _ _
    rw [← hi] at hbs
    cases hh : hasL l x.1 with
    | true =>
      have hp : putOk l x = 7 := by unfold putOk; rw [← hm0, if_pos rfl, if_pos hh]
      have hpl : putL l x = [] := by unfold putL; rw [hp]; rfl
      rw [hh] at hbs
      rw [← hn] at hbs ⊢
      have Hn := Lib.hid hn
      have Hq := Lib.hid hq
      have Hw1 := Lib.hid hw1
      have Hk1 := Lib.hid hk1
      have Hb1 := Lib.hid hb1
      have Hmay := Lib.hid hmay
      have Hm0 := Lib.hid hm0
      have Hbs := Lib.hid hbs
      have Hi := Lib.hid hi
      have Hh := Lib.hid hh
      have Hp := Lib.hid hp
      have Hpl := Lib.hid hpl
      have Hr := Lib.hid hr
      have Hm := Lib.hid hm
      clear hn hq hw1 hk1 hb1 hmay hm0 hbs hi hh hp hpl hr hm
      go_enter Tryd.func16, Tryd.ntmps16
      go_upto_region 1 with fail
      rw [← Hw1.out]
      simp only [← Hq.out]
      have c0 := Hb1.out.cell 0
      have c1 := Hb1.out.cell 1
      simp at c0 c1
      go_wp2_with fail
      refine (Hmay.out _).mono ?_
      rintro e w2 ⟨rfl, hk2⟩
      have d0 := (Hb1.out.keep hk2 (fun h => h)).cell 0
      simp at d0
      have hk02 := Hk1.out.more hk2
      clear c0 c1 hk2
      have Hk02 := Lib.hid hk02
      clear hk02
      go_wp2_with fail
      refine (Hbs.out w2 Hk02.out).mono ?_
      rintro e w3 ⟨rfl, hk3⟩
      go_wp2_with fail
      go_ret2
      exact RetE.no Hpl.out Hp.out (Hk02.out.more hk3)
    | false =>
      have hp : putOk l x = 0 := by unfold putOk; rw [← hm0, if_pos rfl, if_neg (by rw [hh]; decide)]
      have hpl : putL l x = einsL l i x := by unfold putL; rw [hp, if_pos rfl, ← hi]
      rw [hh] at hbs
      rw [← hn] at hbs ⊢
      have Hq := Lib.hid hq
      have Hw1 := Lib.hid hw1
      have Hk1 := Lib.hid hk1
      have Hb1 := Lib.hid hb1
      have Hmay := Lib.hid hmay
      have Hm0 := Lib.hid hm0
      have Hbs := Lib.hid hbs
      have Hi := Lib.hid hi
      have Hh := Lib.hid hh
      have Hp := Lib.hid hp
      have Hpl := Lib.hid hpl
      have Hm := Lib.hid hm
      clear hq hw1 hk1 hb1 hmay hm0 hbs hi hh hp hpl hm
      go_enter Tryd.func16, Tryd.ntmps16
      go_upto_region 1 with fail
      rw [← Hw1.out]
      simp only [← Hq.out]
      have c0 := Hb1.out.cell 0
      have c1 := Hb1.out.cell 1
      simp at c0 c1
      have Hn := Lib.hid hn
      have Hr := Lib.hid hr
      clear hn hr
      go_wp2_with fail
      refine (Hmay.out _).mono ?_
      rintro e w2 ⟨rfl, hk2⟩
      have hb2 := Hb1.out.keep hk2 (fun h => h)
      have d0 := hb2.cell 0
      simp at d0
      have hk02 := Hk1.out.more hk2
      clear c0 c1 hk2
      have Hk02 := Lib.hid hk02
      have Hb2 := Lib.hid hb2
      clear hk02 hb2
      go_wp2_with fail
      refine (Hbs.out w2 Hk02.out).mono ?_
      rintro e w3 ⟨rfl, hk3⟩
      have hb3 := Hb2.out.keep hk3 (fun h => h)
      have hk03 := Hk02.out.more hk3
      have q0 : ∀ w', Keeps nowhere w3.drew w' → w'.cell? ⟨q, 0, none⟩ = some (.string (strOf x.1)) := fun w' e => by simpa using ((hb3.drew).keep e (fun h => h)).cell 0
      have q1 : ∀ w', Keeps nowhere w3.drew w' → w'.cell? ⟨q, 1, none⟩ = some (.int .u32 x.2) := fun w' e => by simpa using ((hb3.drew).keep e (fun h => h)).cell 1
      clear d0 hk3
      have Hb3 := Lib.hid hb3
      have Hk03 := Lib.hid hk03
      clear hb3 hk03
      go_wp2_with fail
      refine wp_region_tree [0, 2, 3] [3] (.ps [0, 2] (.fs [3] (.alt 1 4 true false (.es [4] false (.es [5, 6, 7, 8] false .done)) (.es [1] false (.es [5, 6, 7, 8] false .done))))) (Keeps nowhere w3.drew) rfl (by kernel_rfl) ?_
      refine wpT_ps rfl fun K hK => ?_
      simp only [List.map_cons, List.map_nil, Option.getD_some, List.getElem?_toArray, List.getElem?_cons_zero, List.getElem?_cons_succ]
      iterate 2 (first | (apply quietO_cons _ rfl; (intro w' _; go_simp; rfl)) | apply quietO_skip rfl)
      refine hK _ ?_
      clear hK K
      simp only [Act.put, List.setIfInBounds_toArray, List.set_cons_zero, List.set_cons_succ]
      refine wpT_fs rfl (Keeps.refl _ _) fun K hK => ?_
      simp only [List.map_cons, List.map_nil, Option.getD_some, List.getElem?_toArray, List.getElem?_cons_zero, List.getElem?_cons_succ]
      iterate 1 (first | (apply quietO_cons _ rfl; (intro w' hs; have c_0 := q0 w' hs; have c_1 := q1 w' hs; go_simp; rfl)) | apply quietO_skip rfl)
      refine hK _ ?_
      clear hK K
      simp only [Act.put, List.setIfInBounds_toArray, List.set_cons_zero, List.set_cons_succ]
      clear q0 q1
      refine wpT_alt rfl rfl (fun K hK => ?_) (fun K hK => ?_)
      all_goals (have HK := Lib.hid hK; clear hK; simp only [List.map_cons, List.map_nil, Option.getD_some, List.getElem?_toArray, List.getElem?_cons_zero, List.getElem?_cons_succ])
      · have hrd := Hr.out.same (Hk03.out.drew)
        rw [← Hn.out] at hrd
        have hcl := eclone_any (.slice A n c) g l w3.drew hrd (by have := Hn.out; omega)
        have Hcl := Lib.hid hcl
        have Hil := Lib.hid hil
        have Hrd := Lib.hid hrd
        clear hcl hil hrd
        go_wp2_with fail
        refine Hcl.out.mono ?_
        rintro e w4 ⟨v4, rfl, hrow4, hab4, hk4⟩
        have hab4' : Above w.heap.size v4.ownBlock := hab4.mono (by have := Hk03.out.size; simpa using this)
        have hk04 := (Hk03.out.drew).more hk4
        go_wp2_with fail
        refine HK.out _ _ (fun _ => hk4) ?_
        clear HK K
        refine wpT_es rfl fun K hK => ?_
        have HK := Lib.hid hK
        clear hK
        simp only [List.map_cons, List.map_nil, Option.getD_some, List.getElem?_toArray, List.getElem?_cons_zero, List.getElem?_cons_succ]
        refine RecT.wpList_buildOne (R := recE) Tryd.underlying22 infoE (by decide) rfl (.tmp 25) rfl _ rfl x rfl ?_
        have hk05 := hk04.alloc (.cells (recE.cs x).toArray recE.t)
        have hk45 := (Keeps.refl nowhere w4).alloc (.cells (recE.cs x).toArray recE.t)
        have hb5 := Blk.new w4 recE.t (recE.cs x).toArray
        obtain ⟨w5, hw5⟩ : ∃ w5, w5 = w4.alloc (.cells (recE.cs x).toArray recE.t) := ⟨_, rfl⟩
        obtain ⟨q5, hq5⟩ : ∃ q, q = w4.heap.size := ⟨_, rfl⟩
        rw [← hw5] at hk05 hk45 hb5 ⊢
        simp only [← hq5] at hb5 ⊢
        have hrow5 := hrow4.same hk45
        have hne : v4.ownBlock ≠ some q5 := fun e => by have := hrow4.lt _ e; omega
        clear hk04 hk45 hk4 hab4
        have Hw5 := Lib.hid hw5
        have Hq5 := Lib.hid hq5
        clear hw5 hq5
        go_wp2_with fail
        refine HK.out _ _ (fun h => by cases h) ?_
        clear HK K
        have hins := eins_any v4 l i x q5 w5 hrow5 hb5 hne Hil.out (by have := Hn.out; omega)
        clear hrow4
        have Hins := Lib.hid hins
        have Hk05 := Lib.hid hk05
        clear hins hk05
        refine wpT_es rfl fun K hK => ?_
        have HK := Lib.hid hK
        clear hK
        simp only [List.map_cons, List.map_nil, Option.getD_some, List.getElem?_toArray, List.getElem?_cons_zero, List.getElem?_cons_succ]
        go_wp2_with fail
        refine Hins.out.mono ?_
        rintro e w6 ⟨v6, rfl, hrow6, hf6, hk6⟩
        have hclip := eclip_any v6 _ w6 hrow6
        have hk06 := Hk05.out.trans hk6 (fun b hb e => by have := hab4' b e; omega)
        have hab6 : Above w.heap.size v6.ownBlock := Above.of_from hab4' hf6 Hk05.out.size
        clear hrow6 hf6 hk6
        have Hclip := Lib.hid hclip
        have Hk06 := Lib.hid hk06
        have Hab6 := Lib.hid hab6
        clear hclip hk06 hab6
        go_wp2_with fail
        refine Hclip.out.mono ?_
        rintro e w7 ⟨A7, rfl, hrd7, rfl⟩
        have Hrd7 := Lib.hid hrd7
        clear hrd7
        go_wp2_with fail
        refine HK.out _ _ (fun h => by cases h) ?_
        clear HK K
        refine wpT_done ?_
        go_wp2_with fail
        go_ret2
        exact RetE.yes Hp.out (by rw [Hpl.out]; exact Hrd7.out) Hab6.out Hk06.out
      · refine RecT.wpList_buildOne (R := recE) Tryd.underlying22 infoE (by decide) rfl (.tmp 25) rfl _ rfl x rfl ?_
        have hk04 := (Hk03.out.drew).alloc (.cells (recE.cs x).toArray recE.t)
        have hb4 := Blk.new w3.drew recE.t (recE.cs x).toArray
        obtain ⟨w4, hw4⟩ : ∃ w4, w4 = w3.drew.alloc (.cells (recE.cs x).toArray recE.t) := ⟨_, rfl⟩
        obtain ⟨q5, hq5⟩ : ∃ q, q = w3.drew.heap.size := ⟨_, rfl⟩
        rw [← hw4] at hk04 hb4 ⊢
        simp only [← hq5] at hb4 ⊢
        have hrd := Hr.out.same hk04
        rw [← Hn.out] at hrd
        have hcl := eclone_any (.slice A n c) g l w4 hrd (by have := Hn.out; omega)
        have Hcl := Lib.hid hcl
        have Hil := Lib.hid hil
        have Hrd := Lib.hid hrd
        have Hw4 := Lib.hid hw4
        have Hq5 := Lib.hid hq5
        clear hcl hil hrd hw4 hq5
        go_wp2_with fail
        refine HK.out _ _ (fun h => by cases h) ?_
        clear HK K
        refine wpT_es rfl fun K hK => ?_
        have HK := Lib.hid hK
        clear hK
        simp only [List.map_cons, List.map_nil, Option.getD_some, List.getElem?_toArray, List.getElem?_cons_zero, List.getElem?_cons_succ]
        go_wp2_with fail
        refine Hcl.out.mono ?_
        rintro e w5 ⟨v4, rfl, hrow4, hab4, hk4⟩
        have hab4' : Above w.heap.size v4.ownBlock := hab4.mono hk04.size
        have hk05 := hk04.more hk4
        have hb5 := hb4.keep hk4 (fun h => h)
        have hrow5 := hrow4
        have hne : v4.ownBlock ≠ some q5 := fun e => by have := hab4 _ e; have := hb4.lt; omega
        clear hk4 hab4
        go_wp2_with fail
        refine HK.out _ _ (fun h => by cases h) ?_
        clear HK K
        have hins := eins_any v4 l i x q5 w5 hrow5 hb5 hne Hil.out (by have := Hn.out; omega)
        clear hrow4
        have Hins := Lib.hid hins
        have Hk05 := Lib.hid hk05
        clear hins hk05
        refine wpT_es rfl fun K hK => ?_
        have HK := Lib.hid hK
        clear hK
        simp only [List.map_cons, List.map_nil, Option.getD_some, List.getElem?_toArray, List.getElem?_cons_zero, List.getElem?_cons_succ]
        go_wp2_with fail
        refine Hins.out.mono ?_
        rintro e w6 ⟨v6, rfl, hrow6, hf6, hk6⟩
        have hclip := eclip_any v6 _ w6 hrow6
        have hk06 := Hk05.out.trans hk6 (fun b hb e => by have := hab4' b e; omega)
        have hab6 : Above w.heap.size v6.ownBlock := Above.of_from hab4' hf6 Hk05.out.size
        clear hrow6 hf6 hk6
        have Hclip := Lib.hid hclip
        have Hk06 := Lib.hid hk06
        have Hab6 := Lib.hid hab6
        clear hclip hk06 hab6
        go_wp2_with fail
        refine Hclip.out.mono ?_
        rintro e w7 ⟨A7, rfl, hrd7, rfl⟩
        have Hrd7 := Lib.hid hrd7
        clear hrd7
        go_wp2_with fail
        refine HK.out _ _ (fun h => by cases h) ?_
        clear HK K
        refine wpT_done ?_
        go_wp2_with fail
        go_ret2
        exact RetE.yes Hp.out (by rw [Hpl.out]; exact Hrd7.out) Hab6.out Hk06.out
  · have hp : putOk l x = m0 := by unfold putOk; rw [← hm0, if_neg z0]
    have hpl : putL l x = [] := by unfold putL; rw [hp, if_neg z0]
    have z0I : (m0 != 0) = true := by simp [z0]
    rw [← hn]
    have Hn := Lib.hid hn
    have Hq := Lib.hid hq
    have Hw1 := Lib.hid hw1
    have Hk1 := Lib.hid hk1
    have Hb1 := Lib.hid hb1
    have Hmay := Lib.hid hmay
    have Hm0 := Lib.hid hm0
    have Hp := Lib.hid hp
    have Hpl := Lib.hid hpl
    have Hr := Lib.hid hr
    have Hm := Lib.hid hm
    clear hn hq hw1 hk1 hb1 hmay hm0 hp hpl hr hm
    go_enter Tryd.func16, Tryd.ntmps16
    go_upto_region 1 with fail
    rw [← Hw1.out]
    simp only [← Hq.out]
    have c0 := Hb1.out.cell 0
    have c1 := Hb1.out.cell 1
    simp at c0 c1
    go_wp2_with fail
    refine (Hmay.out _).mono ?_
    rintro e w2 ⟨rfl, hk2⟩
    have hk02 := Hk1.out.more hk2
    clear c0 c1 hk2
    have Hk02 := Lib.hid hk02
    clear hk02
    go_wp2_with fail
    go_ret2
    exact RetE.no Hpl.out Hp.out Hk02.out
end Go.Proofs.YtnlmdfbjmhcilaaDoor
/-
  entry: Cut.
-/
namespace Go.Proofs.YtnlmdfbjmhcilaaDoor
open Go.RowKit Go.Proofs
attribute [local go_sem] strOf_size strOf_get strOf_toList

def cutOk (l : List EntV) (t : List UInt8) : Int := if hasL l t = true then 0 else 6
def cutE (l : List EntV) (t : List UInt8) : List EntV := if hasL l t = true then l.eraseIdx (posL l t) else []
theorem hasL_lt {l : List EntV} {t : List UInt8} (h : hasL l t = true) : posL l t < l.length := by
  unfold hasL at h
  cases hx : l[posL l t]? with
  | none => rw [hx] at h; cases h
  | some x => exact (List.getElem?_eq_some_iff.1 hx).1
set_option maxRecDepth 20000 in
set_option maxHeartbeats 4000000 in
theorem cut_any (A : Option Addr) (c : Nat) (g : Option Nat) (l : List EntV) (t : List UInt8) (w : World) (hr : recE.Rd w (.slice A l.length c) g l) (hl : l.length ≤ 1000000) (hm : Mono l t) :
    Calls Tryd.prog 18 #[.slice A l.length c, .string (strOf t)] w (RetE (cutE l t) (cutOk l t) w) := by
  obtain ⟨n, hn⟩ : ∃ n, n = l.length := ⟨_, rfl⟩
  have hbs := bs_any A c g l t w hr (by omega) hm
  unfold BsP at hbs
  obtain ⟨i, hi⟩ : ∃ i, i = posL l t := ⟨_, rfl⟩
  rw [← hi] at hbs
  cases hh : hasL l t with
  | false =>
    have hp : cutOk l t = 6 := by unfold cutOk; rw [if_neg (by rw [hh]; decide)]
    have hpl : cutE l t = [] := by unfold cutE; rw [if_neg (by rw [hh]; decide)]
    rw [hh] at hbs
    rw [← hn] at hbs ⊢
    have Hn := Lib.hid hn
    have Hbs := Lib.hid hbs
    have Hi := Lib.hid hi
    have Hh := Lib.hid hh
    have Hp := Lib.hid hp
    have Hpl := Lib.hid hpl
    have Hr := Lib.hid hr
    have Hm := Lib.hid hm
    clear hn hbs hi hh hp hpl hr hm
    go_enter Tryd.func18, Tryd.ntmps18
    go_wp2_with fail
    refine Hbs.out.mono ?_
    rintro e w3 ⟨rfl, hk3⟩
    go_wp2_with fail
    go_ret2
    exact RetE.no Hpl.out Hp.out hk3
  | true =>
    have hil := hasL_lt hh
    rw [← hi] at hil
    have hp : cutOk l t = 0 := by unfold cutOk; rw [if_pos hh]
    have hpl : cutE l t = l.eraseIdx i := by unfold cutE; rw [if_pos hh, ← hi]
    have hi1 : IntKind.i64.wrap ((i : Int) + 1) = ((i + 1 : Nat) : Int) := by rw [IntWalk.i64_in _ (by omega)]; omega
    rw [hh] at hbs
    rw [← hn] at hbs ⊢
    have Hn := Lib.hid hn
    have Hbs := Lib.hid hbs
    have Hi := Lib.hid hi
    have Hh := Lib.hid hh
    have Hp := Lib.hid hp
    have Hpl := Lib.hid hpl
    have Hr := Lib.hid hr
    have Hm := Lib.hid hm
    have Hil := Lib.hid hil
    clear hn hbs hi hh hp hpl hr hm hil
    go_enter Tryd.func18, Tryd.ntmps18
    go_wp2_with fail
    refine Hbs.out.mono ?_
    rintro e w3 ⟨rfl, hk3⟩
    have hrd := Hr.out.same hk3
    rw [← Hn.out] at hrd
    have hcl := eclone_any (.slice A n c) g l w3 hrd (by have := Hn.out; omega)
    have Hcl := Lib.hid hcl
    have Hrd := Lib.hid hrd
    have Hk3 := Lib.hid hk3
    clear hcl hrd hk3
    go_wp2_with fail
    refine Hcl.out.mono ?_
    rintro e w4 ⟨v4, rfl, hrow4, hab4, hk4⟩
    have hab4' : Above w.heap.size v4.ownBlock := hab4.mono Hk3.out.size
    have hk04 := Hk3.out.more hk4
    obtain ⟨b, cap, rfl⟩ : ∃ b cap, v4 = .slice (some ⟨b, 0, none⟩) l.length cap := by
      rcases hrow4.blk with ⟨-, h0⟩ | ⟨b, cap, rest, hv, -⟩
      · have := Hil.out
        rw [h0] at this
        cases this
      · exact ⟨b, cap, hv⟩
    have hdel := edelete_any w4 b cap i l hrow4 Hil.out (by have := Hn.out; omega)
    rw [← Hn.out] at hdel hab4' ⊢
    have hbw : w.heap.size ≤ b := hab4' b rfl
    clear hrow4 hab4 hk4 hab4'
    have Hdel := Lib.hid hdel
    have Hk04 := Lib.hid hk04
    clear hdel hk04
    go_wp2_with fail
    refine Hdel.out.mono ?_
    rintro e w5 ⟨rfl, hrow5, hk5⟩
    have hclip := eclip_any _ _ w5 hrow5
    have hk05 := Hk04.out.trans hk5 (fun k hk e => by have e : k = b := e; omega)
    clear hrow5 hk5
    obtain ⟨m, hm2⟩ : ∃ m, m = (l.eraseIdx i).length := ⟨_, rfl⟩
    rw [← hm2] at hclip ⊢
    have Hclip := Lib.hid hclip
    have Hk05 := Lib.hid hk05
    have Hm2 := Lib.hid hm2
    clear hclip hk05 hm2
    go_wp2_with fail
    refine Hclip.out.mono ?_
    rintro e w6 ⟨A6, rfl, hrd6, rfl⟩
    have Hrd6 := Lib.hid hrd6
    clear hrd6
    go_wp2_with fail
    go_ret2
    exact RetE.yes Hp.out (by rw [Hpl.out]; exact Hrd6.out) (fun k e => by have e : some b = some k := e; injection e with e; omega) Hk05.out
end Go.Proofs.YtnlmdfbjmhcilaaDoor
