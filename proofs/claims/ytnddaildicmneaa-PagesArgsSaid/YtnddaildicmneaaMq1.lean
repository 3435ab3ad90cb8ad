/-
  Parts of the proof, joined in build order: PgA.
-/
import Derived.Test.YtnddaildicmneaaMp6
set_option linter.unusedVariables false
set_option linter.unusedSimpArgs false
/-
  loggialaw8.PagesArgs: the walk.
-/
namespace Go.Proofs.Ytnddaildicmneaa
open Go.Proofs Go.RowKit Go.Sort Go.Maps

set_option maxRecDepth 20000 in
set_option maxHeartbeats 8000000 in
theorem pargs_bad (a n p : Int) (w : World) (ha : a ≤ 9223372036854775807) (hn : n ≤ 9223372036854775807) (hb : ¬ (0 ≤ a ∧ 0 ≤ n ∧ n ≤ 60 ∧ a ≤ 60 - n ∧ 1 ≤ p ∧ p ≤ 1024 ∧ 3 * p + 16 ≤ n)) :
    Calls Try.prog 10 #[.int .i64 a, .int .i64 n, .int .i64 p] w (YesD w) := by
  have hkn := known8 w
  have hcs : a < 0 ∨ (0 ≤ a ∧ n < 0) ∨ (0 ≤ a ∧ 0 ≤ n ∧ 60 < a) ∨ (0 ≤ a ∧ 0 ≤ n ∧ a ≤ 60 ∧ 60 - a < n) ∨ (0 ≤ a ∧ 0 ≤ n ∧ a ≤ 60 ∧ n ≤ 60 - a ∧ p < 1) ∨ (0 ≤ a ∧ 0 ≤ n ∧ a ≤ 60 ∧ n ≤ 60 - a ∧ 1 ≤ p ∧ 1024 < p) ∨ (0 ≤ a ∧ 0 ≤ n ∧ a ≤ 60 ∧ n ≤ 60 - a ∧ 1 ≤ p ∧ p ≤ 1024 ∧ n < 3 * p + 16) := by omega
  have Hkn := Lib.hid hkn
  have Hcs := Lib.hid hcs
  have Hb := Lib.hid hb
  clear hkn hcs hb
  go_enter Try.func10, Try.ntmps10
  go_wp2_with fail
  refine (Hkn.out).mono ?_
  rintro e w1 ⟨rfl, hk1⟩
  go_wp2_with fail
  refine (own_new 60 64 hk1 (by decide) (by decide) (by decide) (by decide)).mono ?_
  rintro e w2 ⟨d, F2, rfl, o2, -, -⟩
  have hf := bformat_bad a n p o2.k (by simp [freshD]) rfl ha hn (by simpa [freshD] using Hb.out)
  unfold dp at *
  have O2 := Lib.hid o2
  have Hf := Lib.hid hf
  clear o2 hf
  go_wp2_with fail
  refine (Hf.out).mono ?_
  rintro e w3 ⟨rfl, hk3⟩
  have hkp := O2.out.kp.more hk3
  clear Hf
  have Hkp := Lib.hid hkp
  have Hk3 := Lib.hid hk3
  have Hk1 := Lib.hid hk1
  clear hkp hk3 hk1
  rcases Hcs.out with h1 | ⟨h1, h2⟩ | ⟨h1, h2, h3⟩ | ⟨h1, h2, h3, h4⟩ | ⟨h1, h2, h3, h4, h5⟩ | ⟨h1, h2, h3, h4, h5, h6⟩ | ⟨h1, h2, h3, h4, h5, h6, h7⟩
  · have g1 : ¬ 0 ≤ a := by omega
    clear h1
    go_wp2_with fail
    go_ret
    exact ⟨rfl, Hkp.out⟩
  · have g2 : ¬ 0 ≤ n := by omega
    clear h2
    go_wp2_with fail
    go_ret
    exact ⟨rfl, Hkp.out⟩
  · have g3 : ¬ a ≤ 60 := by omega
    clear h3
    go_wp2_with fail
    go_ret
    exact ⟨rfl, Hkp.out⟩
  · have g4 : ¬ n ≤ 60 - a := by omega
    have e1 : IntKind.i64.wrap (60 - a) = 60 - a := IntWalk.i64_in _ (by omega)
    clear h4
    go_wp2_with fail
    go_ret
    exact ⟨rfl, Hkp.out⟩
  · have g5 : ¬ 1 ≤ p := by omega
    have e1 : IntKind.i64.wrap (60 - a) = 60 - a := IntWalk.i64_in _ (by omega)
    clear h5
    go_wp2_with fail
    go_ret
    exact ⟨rfl, Hkp.out⟩
  · have g6 : ¬ p ≤ 1024 := by omega
    have e1 : IntKind.i64.wrap (60 - a) = 60 - a := IntWalk.i64_in _ (by omega)
    clear h6
    go_wp2_with fail
    go_ret
    exact ⟨rfl, Hkp.out⟩
  · have g7 : ¬ 3 * p + 16 ≤ n := by omega
    have e1 : IntKind.i64.wrap (60 - a) = 60 - a := IntWalk.i64_in _ (by omega)
    have e2 : IntKind.i64.wrap (3 * p) = 3 * p := IntWalk.i64_in _ (by omega)
    have e3 : IntKind.i64.wrap (3 * p + 16) = 3 * p + 16 := IntWalk.i64_in _ (by omega)
    have g7d : decide (3 * p + 16 ≤ n) = false := decide_eq_false g7
    clear h7
    go_wp2_with fail
    go_ret
    exact ⟨rfl, Hkp.out⟩
set_option maxRecDepth 20000 in
set_option maxHeartbeats 8000000 in
theorem pargs_ok (a n p : Nat) (w : World) (hn : a + n ≤ 60) (hf : fitsN n p) :
    Calls Try.prog 10 #[.int .i64 a, .int .i64 n, .int .i64 p] w (YesD w) := by
  have hkn := known8 w
  obtain ⟨f1, f2, f3⟩ := id hf
  have h1 : (0 : Int) ≤ a := by omega
  have h2 : (0 : Int) ≤ n := by omega
  have h3 : (a : Int) ≤ 60 := by omega
  have h4 : (n : Int) ≤ 60 - a := by omega
  have h5 : (1 : Int) ≤ p := by omega
  have h6 : (p : Int) ≤ 1024 := by omega
  have h7 : 3 * (p : Int) + 16 ≤ n := by omega
  have e1 : IntKind.i64.wrap (60 - (a : Int)) = 60 - a := IntWalk.i64_in _ (by omega)
  have e2 : IntKind.i64.wrap (3 * (p : Int)) = 3 * p := IntWalk.i64_in _ (by omega)
  have e3 : IntKind.i64.wrap (3 * (p : Int) + 16) = 3 * p + 16 := IntWalk.i64_in _ (by omega)
  have Hkn := Lib.hid hkn
  have Hn := Lib.hid hn
  have Hf := Lib.hid hf
  clear hkn hn hf
  go_enter Try.func10, Try.ntmps10
  go_wp2_with fail
  refine (Hkn.out).mono ?_
  rintro e w1 ⟨rfl, hk1⟩
  go_wp2_with fail
  refine (own_new 60 64 hk1 (by decide) (by decide) (by decide) (by decide)).mono ?_
  rintro e w2 ⟨d, F2, rfl, o2, -, -⟩
  have hfm := pm_format 60 a n p o2 Hn.out (by omega) Hf.out
  unfold dp bp at *
  have O2 := Lib.hid o2
  have Hfm := Lib.hid hfm
  have Hk1 := Lib.hid hk1
  clear o2 hfm hk1
  go_wp2_with fail
  refine (Hfm.out).mono ?_
  rintro e w3 ⟨s, F3, M3, D3, rfl, pm3, pv3, ho3, -, -, -⟩
  clear Hfm
  have hop := pm_open pm3 pv3 ho3 (by omega) (by omega) (by omega) a n rfl rfl
  unfold dp bp at hop
  have Pm3 := Lib.hid pm3
  have Pv3 := Lib.hid pv3
  have Ho3 := Lib.hid ho3
  have Hop := Lib.hid hop
  clear pm3 pv3 ho3 hop
  go_wp2_with fail
  refine (Hop.out).mono ?_
  rintro e w4 ⟨t, M4, rfl, pm4, -, -⟩
  have hpg := bpages_any pm4.bp
  have hms := bmost_any pm4.bp
  have hkp := pm4.kp
  unfold bp at hpg hms
  by_cases h8 : (8 : Int) ≤ p
  · have Pm4 := Lib.hid pm4
    have Hpg := Lib.hid hpg
    have Hms := Lib.hid hms
    have Hkp := Lib.hid hkp
    clear pm4 hpg hms hkp
    go_wp2_with fail
    refine (Hpg.out).mono ?_
    rintro e w5 ⟨rfl, rfl⟩
    go_wp2_with fail
    refine (Hms.out).mono ?_
    rintro e w5 ⟨rfl, rfl⟩
    go_wp2_with fail
    refine (Hms.out).mono ?_
    rintro e w5 ⟨rfl, rfl⟩
    go_wp2_with fail
    go_ret
    exact ⟨rfl, Hkp.out⟩
  · have Pm4 := Lib.hid pm4
    have Hpg := Lib.hid hpg
    have Hms := Lib.hid hms
    have Hkp := Lib.hid hkp
    clear pm4 hpg hms hkp
    go_wp2_with fail
    refine (Hpg.out).mono ?_
    rintro e w5 ⟨rfl, rfl⟩
    go_wp2_with fail
    refine (Hms.out).mono ?_
    rintro e w5 ⟨rfl, rfl⟩
    go_wp2_with fail
    refine (Hms.out).mono ?_
    rintro e w5 ⟨rfl, rfl⟩
    go_wp2_with fail
    refine (Hms.out).mono ?_
    rintro e w5 ⟨rfl, rfl⟩
    go_wp2_with fail
    go_ret
    exact ⟨rfl, Hkp.out⟩
theorem pagesArgs_walk (a n p : Int) (w : World) (ha : a ≤ 9223372036854775807) (hn : n ≤ 9223372036854775807) :
    Calls Try.prog 10 #[.int .i64 a, .int .i64 n, .int .i64 p] w (YesD w) := by
  by_cases hb : 0 ≤ a ∧ 0 ≤ n ∧ n ≤ 60 ∧ a ≤ 60 - n ∧ 1 ≤ p ∧ p ≤ 1024 ∧ 3 * p + 16 ≤ n
  · obtain ⟨h1, h2, h3, h4, h5, h6, h7⟩ := hb
    obtain ⟨a', rfl⟩ := Int.eq_ofNat_of_zero_le h1
    obtain ⟨n', rfl⟩ := Int.eq_ofNat_of_zero_le h2
    obtain ⟨p', rfl⟩ := Int.eq_ofNat_of_zero_le (show 0 ≤ p by omega)
    exact pargs_ok a' n' p' w (by omega) ⟨by omega, by omega, by omega⟩
  · exact pargs_bad a n p w ha hn hb
end Go.Proofs.Ytnddaildicmneaa
