/-
  loggialaw9.MapFull: the walk.
-/
import Derived.Test.YtbckbnmpeedodaaKnown9
namespace Go.Proofs.Ytbckbnmpeedodaa
open Go.RowKit

/-- the first `i` places are taken -/
def first (i : Nat) : Nat → Bool := fun j => decide (j < i)
theorem first_zero : first 0 = fun _ => false := by funext j; simp [first]
theorem first_fill (i : Nat) : fill (first i) i 1 = first (i + 1) := by
  funext j; unfold fill first
  by_cases h : i ≤ j ∧ j < i + 1
  · rw [if_pos h]; simp <;> omega
  · rw [if_neg h]; exact decide_eq_decide.2 (by omega)
theorem first_run {k i : Nat} (h : i < k) : IsRun (first i) k 1 i ∧ ∀ i', i' < i → ¬ IsRun (first i) k 1 i' := by
  refine ⟨⟨by omega, fun j hj => ?_⟩, fun i' hi hr => ?_⟩
  · unfold first; simp <;> omega
  · have := hr.2 0 (by omega)
    unfold first at this; simp at this <;> omega
theorem first_none (k : Nat) (i : Nat) : ¬ IsRun (first k) k 1 i := fun hr => by
  have h1 := hr.1
  have := hr.2 0 (by omega)
  unfold first at this; simp at this <;> omega
theorem gap_run {k w : Nat} (h : w < k) : IsRun (upd (first k) w false) k 1 w ∧ ∀ i', i' < w → ¬ IsRun (upd (first k) w false) k 1 i' := by
  refine ⟨⟨by omega, fun j hj => ?_⟩, fun i' hi hr => ?_⟩
  · obtain rfl : j = 0 := by omega
    exact upd_same _ _ _
  · have := hr.2 0 (by omega)
    rw [upd_ne _ _ (by omega)] at this
    unfold first at this; simp at this <;> omega
theorem gap_fill {k w : Nat} (h : w < k) : fill (upd (first k) w false) w 1 = first k := by
  funext j; unfold fill upd
  by_cases e : j = w
  · subst e; rw [if_pos (by omega)]; unfold first; simp [h]
  · rw [if_neg (by omega), if_neg e]
theorem first_cnt (k : Nat) : ∀ n, n ≤ k → cntF (first k) n = 0
  | 0, _ => rfl
  | n + 1, h => by
    unfold cntF
    rw [first_cnt k n (by omega), show first k n = true by unfold first; simp; omega]; simp
theorem first_has {k w : Nat} (h : w < k) : hasM (first k) (w : Int) = true := by rw [hasM_nat]; unfold first; simp [h]

set_option maxRecDepth 8000 in
set_option maxHeartbeats 2000000 in
theorem mfull_any (a c : Nat) (w : World) (ha : a < 256) (hc : c < 256) : Calls Try.prog 9 #[.int .u8 a, .int .u8 c] w (YesM w) := by
  obtain ⟨k, hk⟩ : ∃ k, k = 1 + a := ⟨_, rfl⟩
  have hk1 : 1 ≤ k := by omega
  have hk2 : k ≤ 256 := by omega
  have hw1 : IntKind.i64.wrap (a : Int) = a := IntWalk.i64_in _ (by omega)
  have hw2 : IntKind.i64.wrap (1 + (a : Int)) = k := by rw [show 1 + (a : Int) = k by omega]; exact IntWalk.i64_in _ (by omega)
  have hw3 : (1 : Int) + a = k := by omega
  have hw4 : IntKind.i64.wrap (c : Int) = c := IntWalk.i64_in _ (by omega)
  obtain ⟨x, hx⟩ : ∃ x, x = c % k := ⟨_, rfl⟩
  have hxk : x < k := by rw [hx]; exact Nat.mod_lt _ (by omega)
  have hw5 : (c : Int).tmod k = x := by rw [Int.tmod_eq_emod_of_nonneg (by omega), hx]; simp
  have hw6 : (c : Int) % k = x := by rw [hx]; simp
  have hk0 : ¬ (k : Int) = 0 := by omega
  have hw7 : IntKind.i64.wrap (k : Int) = k := IntWalk.i64_in _ (by omega)
  have hw8 : IntKind.i64.wrap (x : Int) = x := IntWalk.i64_in _ (by omega)
  have Hk := Lib.hid hk
  have Hx := Lib.hid hx
  clear hk hx
  go_enter Try.func9, Try.ntmps9
  go_wp2_with fail
  refine (known9 _).mono ?_
  rintro e w0 ⟨rfl, hk3⟩
  have Hk3 := Lib.hid hk3
  clear hk3
  go_wp2_with fail
  refine (new_ok k _ hk1 (by omega)).mono ?_
  rintro e w1 ⟨p, g, rfl, hp, hg, hm, hk4⟩
  rw [← first_zero] at hm
  have hk5 := Hk3.out.more hk4
  have hp0 := Nat.le_trans Hk3.out.size hp
  have hg0 := Nat.le_trans Hk3.out.size hg
  clear hk4 hp hg
  unfold mp
  have Hm := Lib.hid hm
  have Hk5 := Lib.hid hk5
  have Hp0 := Lib.hid hp0
  have Hg0 := Lib.hid hg0
  clear hm hk5 hp0 hg0
  go_wp2_with fail
  go_loopw [8] (fun iv wr => ∃ i : Nat, iv = .int .i64 i ∧ i ≤ k ∧ MapAt wr p g k (first i) ∧ Keeps nowhere w wr) (fun iv _ => k - (intOf iv).toNat)
  case atStart => exact ⟨0, rfl, Nat.zero_le _, Hm.out, Hk5.out⟩
  case round =>
    obtain ⟨i, rfl, hi, hmr, hkr⟩ := hrel
    by_cases hlt : i < k
    · have hltI : (i : Int) < k := by omega
      have hi1 : IntKind.i64.wrap ((i : Int) + 1) = i + 1 := IntWalk.i64_in _ (by omega)
      have Hmr := Lib.hid hmr
      have Hkr := Lib.hid hkr
      clear hmr hkr
      go_wp2_with fail
      refine (take_any _ p g k _ Hmr.out).mono ?_
      rintro e w2 ⟨f1, hr, hm1, hk6⟩
      obtain ⟨rfl, rfl⟩ := run_pick hr (first_run hlt).1 (first_run hlt).2
      rw [first_fill] at hm1
      have hk7 := keep2 Hkr.out Hp0.out Hg0.out hk6
      clear hk6 hr
      have Hm1 := Lib.hid hm1
      have Hk7 := Lib.hid hk7
      clear hm1 hk7
      go_wp2_with fail
      go_roundw
      case rel => exact ⟨i + 1, by simp, by omega, Hm1.out, Hk7.out⟩
      case measure => simp [intOf]; omega
    · obtain rfl : i = k := by omega
      have hn := first_none i
      have Hmr := Lib.hid hmr
      have Hkr := Lib.hid hkr
      clear hmr hkr
      go_wp2_with fail
      refine (take_any _ p g i _ Hmr.out).mono ?_
      rintro e w2 ⟨f1, hr, hm1, hk6⟩
      obtain ⟨rfl, rfl⟩ := run_none hr hn
      have hk7 := keep2 Hkr.out Hp0.out Hg0.out hk6
      clear hk6 hr
      have Hm1 := Lib.hid hm1
      have Hk7 := Lib.hid hk7
      clear hm1 hk7
      go_wp2_with fail
      refine (run_any _ p g i 1 _ Hm1.out (by omega) (by omega)).mono ?_
      rintro e w3 ⟨f1, hr, hm2, hk6⟩
      obtain ⟨rfl, rfl⟩ := run_none hr hn
      have hk8 := keep2 Hk7.out Hp0.out Hg0.out hk6
      clear hk6 hr
      have Hm2 := Lib.hid hm2
      have Hk8 := Lib.hid hk8
      clear hm2 hk8
      go_wp2_with fail
      refine (clear_any _ p g i _ x Hm2.out).mono ?_
      rintro e w4 ⟨rfl, hm3, hk6⟩
      rw [first_has hxk, if_pos rfl, setM_in _ hxk] at hm3
      rw [first_has hxk]
      have hk9 := keep2 Hk8.out Hp0.out Hg0.out hk6
      clear hk6
      have Hm3 := Lib.hid hm3
      have Hk9 := Lib.hid hk9
      clear hm3 hk9
      go_wp2_with fail
      refine (take_any _ p g i _ Hm3.out).mono ?_
      rintro e w5 ⟨f1, hr, hm4, hk6⟩
      obtain ⟨rfl, rfl⟩ := run_pick hr (gap_run hxk).1 (gap_run hxk).2
      rw [gap_fill hxk] at hm4
      have hk10 := keep2 Hk9.out Hp0.out Hg0.out hk6
      clear hk6 hr
      have Hm4 := Lib.hid hm4
      have Hk10 := Lib.hid hk10
      clear hm4 hk10
      go_wp2_with fail
      refine (free_any _ p g i _ Hm4.out).mono ?_
      rintro e w6 ⟨rfl, rfl⟩
      rw [first_cnt i i (Nat.le_refl _)]
      go_wp2_with fail
      go_ret
      exact ⟨rfl, Hk10.out⟩
end Go.Proofs.Ytbckbnmpeedodaa
