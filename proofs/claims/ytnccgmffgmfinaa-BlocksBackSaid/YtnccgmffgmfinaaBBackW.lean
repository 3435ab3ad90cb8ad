/-
  loggialaw12.BlocksBack: the walk.
-/
import Derived.Test.YtnccgmffgmfinaaBPlain2
namespace Go.Proofs.Ytnccgmffgmfinaa
open Go.RowKit

theorem bback_out {w1 w2 : World} {k a c m : Int} (hk : Keeps nowhere (w1.alloc (.cells #[.int .i64 k, .int .i64 a, .int .i64 c, .int .i64 m] 25)) w2) : Keeps nowhere w1 w2 ∧ Blk w2 w1.heap.size 25 #[.int .i64 k, .int .i64 a, .int .i64 c, .int .i64 m] :=
  ⟨((Keeps.refl nowhere w1).alloc _).more hk, (Blk.new w1 _ _).keep hk (fun h => h)⟩

set_option maxRecDepth 8000 in
set_option maxHeartbeats 4000000 in
theorem bback_bad1 (k a c m b : Int) (w : World) (hb : backO ⟨k, a, c, m⟩ b = none)
    (hC : goodB b = false ∨ (goodB b = true ∧ m < 0) ∨ (goodB b = true ∧ 0 ≤ m ∧ b ≤ m) ∨ (goodB b = true ∧ 0 ≤ m ∧ m < b ∧ a < 0) ∨ (goodB b = true ∧ 0 ≤ m ∧ m < b ∧ 0 ≤ a ∧ c < 0)) :
    Calls Try.prog 4 #[(Road.mk k a c m).v, .int .i64 b] w (Yes w) := by
  have hN : backN ⟨k, a, c, m⟩ b = 0 := by rw [backN, hb]
  have hE : backE ⟨k, a, c, m⟩ b = 1 := by rw [backE, hb]
  clear hb
  unfold Road.v
  rcases hC with hg | ⟨hg, h1⟩ | ⟨hg, h1, h2⟩ | ⟨hg, h1, h2, h3⟩ | ⟨hg, h1, h2, h3, h4⟩
  all_goals
    have Hg := Lib.hid hg
    have HN := Lib.hid hN
    have HE := Lib.hid hE
    clear hg hN hE
    go_enter Try.func4, Try.ntmps4
    go_wp2_with fail
    refine (known12 _).mono ?_
    rintro e w1 ⟨rfl, hk1⟩
    obtain ⟨hk2, hb2⟩ := bback_out hk1
    clear hk1
    have c0 := hb2.cell 0
    have c1 := hb2.cell 1
    have c2 := hb2.cell 2
    have c3 := hb2.cell 3
    simp at c0 c1 c2 c3
    have Hk2 := Lib.hid hk2
    have Hb2 := Lib.hid hb2
    clear hk2 hb2
    go_wp2_with fail
    refine (back_any ⟨_, a, c, m⟩ b _).mono ?_
    rintro e w2 ⟨he, hk3⟩
    rw [HN.out, HE.out] at he
    subst he
    have hb3 := Hb2.out.keep hk3 (fun h => h)
    have hk4 := Hk2.out.more hk3
    clear c0 c1 c2 c3 hk3
    have c0 := hb3.cell 0
    have c1 := hb3.cell 1
    have c2 := hb3.cell 2
    have c3 := hb3.cell 3
    simp at c0 c1 c2 c3
    have Hk4 := Lib.hid hk4
    have Hb3 := Lib.hid hb3
    clear hk4 hb3
    go_wp2_with fail
    refine (law_good b _).mono ?_
    rintro e w3 ⟨rfl, rfl⟩
    rw [Hg.out]
    go_wp2_with fail
    all_goals
      go_ret
      exact ⟨rfl, Hk4.out⟩

set_option maxRecDepth 8000 in
set_option maxHeartbeats 4000000 in
theorem bback_bad2 (k a c m b : Int) (w : World) (hb : backO ⟨k, a, c, m⟩ b = none)
    (hC : ((goodB b = true ∧ 0 ≤ m ∧ m < b ∧ 0 ≤ a ∧ 0 ≤ c) ∧ k = 1 ∧ 8 ≤ a) ∨ ((goodB b = true ∧ 0 ≤ m ∧ m < b ∧ 0 ≤ a ∧ 0 ≤ c) ∧ k = 1 ∧ a < 8 ∧ ¬ c = 0)) :
    Calls Try.prog 4 #[(Road.mk k a c m).v, .int .i64 b] w (Yes w) := by
  have hN : backN ⟨k, a, c, m⟩ b = 0 := by rw [backN, hb]
  have hE : backE ⟨k, a, c, m⟩ b = 1 := by rw [backE, hb]
  clear hb
  unfold Road.v
  rcases hC with ⟨⟨hg, h1, h2, h3, h4⟩, rfl, h5⟩ | ⟨⟨hg, h1, h2, h3, h4⟩, rfl, h5, h6⟩
  all_goals
    try have h6 : (c == 0) = false := by simpa using h6
    have Hg := Lib.hid hg
    have HN := Lib.hid hN
    have HE := Lib.hid hE
    clear hg hN hE
    go_enter Try.func4, Try.ntmps4
    go_wp2_with fail
    refine (known12 _).mono ?_
    rintro e w1 ⟨rfl, hk1⟩
    obtain ⟨hk2, hb2⟩ := bback_out hk1
    clear hk1
    have c0 := hb2.cell 0
    have c1 := hb2.cell 1
    have c2 := hb2.cell 2
    have c3 := hb2.cell 3
    simp at c0 c1 c2 c3
    have Hk2 := Lib.hid hk2
    have Hb2 := Lib.hid hb2
    clear hk2 hb2
    go_wp2_with fail
    refine (back_any ⟨_, a, c, m⟩ b _).mono ?_
    rintro e w2 ⟨he, hk3⟩
    rw [HN.out, HE.out] at he
    subst he
    have hb3 := Hb2.out.keep hk3 (fun h => h)
    have hk4 := Hk2.out.more hk3
    clear c0 c1 c2 c3 hk3
    have c0 := hb3.cell 0
    have c1 := hb3.cell 1
    have c2 := hb3.cell 2
    have c3 := hb3.cell 3
    simp at c0 c1 c2 c3
    have Hk4 := Lib.hid hk4
    have Hb3 := Lib.hid hb3
    clear hk4 hb3
    go_wp2_with fail
    refine (law_good b _).mono ?_
    rintro e w3 ⟨rfl, rfl⟩
    rw [Hg.out]
    go_wp2_with fail
    all_goals
      go_ret
      exact ⟨rfl, Hk4.out⟩

set_option maxRecDepth 8000 in
set_option maxHeartbeats 4000000 in
theorem bback_bad3 (k a c m b : Int) (w : World) (hb : backO ⟨k, a, c, m⟩ b = none)
    (hC : ((goodB b = true ∧ 0 ≤ m ∧ m < b ∧ 0 ≤ a ∧ 0 ≤ c) ∧ k = 2 ∧ b / 4 ≤ a) ∨ ((goodB b = true ∧ 0 ≤ m ∧ m < b ∧ 0 ≤ a ∧ 0 ≤ c) ∧ k = 2 ∧ a < b / 4 ∧ ¬ c = 0)) :
    Calls Try.prog 4 #[(Road.mk k a c m).v, .int .i64 b] w (Yes w) := by
  have hN : backN ⟨k, a, c, m⟩ b = 0 := by rw [backN, hb]
  have hE : backE ⟨k, a, c, m⟩ b = 1 := by rw [backE, hb]
  clear hb
  unfold Road.v
  rcases hC with ⟨⟨hg, h1, h2, h3, h4⟩, rfl, h5⟩ | ⟨⟨hg, h1, h2, h3, h4⟩, rfl, h5, h6⟩
  all_goals
    have ht : IntKind.i64.wrap (b.tdiv 4) = b / 4 := by
      have := good_cases hg
      rw [Int.tdiv_eq_ediv_of_nonneg (by omega)]
      exact IntWalk.i64_in _ (by omega)
    have ht2 : wrap64 (b.tdiv 4) = b / 4 := (IntWalk.i64_left _).symm.trans ht
    obtain ⟨t, hte⟩ : ∃ t, t = b / 4 := ⟨_, rfl⟩
    try rw [← hte] at ht
    try rw [← hte] at ht2
    try rw [← hte] at h5
    try rw [← hte] at h6
    clear hte
    try have h6 : (c == 0) = false := by simpa using h6
    have Hg := Lib.hid hg
    have HN := Lib.hid hN
    have HE := Lib.hid hE
    clear hg hN hE
    go_enter Try.func4, Try.ntmps4
    go_wp2_with fail
    refine (known12 _).mono ?_
    rintro e w1 ⟨rfl, hk1⟩
    obtain ⟨hk2, hb2⟩ := bback_out hk1
    clear hk1
    have c0 := hb2.cell 0
    have c1 := hb2.cell 1
    have c2 := hb2.cell 2
    have c3 := hb2.cell 3
    simp at c0 c1 c2 c3
    have Hk2 := Lib.hid hk2
    have Hb2 := Lib.hid hb2
    clear hk2 hb2
    go_wp2_with fail
    refine (back_any ⟨_, a, c, m⟩ b _).mono ?_
    rintro e w2 ⟨he, hk3⟩
    rw [HN.out, HE.out] at he
    subst he
    have hb3 := Hb2.out.keep hk3 (fun h => h)
    have hk4 := Hk2.out.more hk3
    clear c0 c1 c2 c3 hk3
    have c0 := hb3.cell 0
    have c1 := hb3.cell 1
    have c2 := hb3.cell 2
    have c3 := hb3.cell 3
    simp at c0 c1 c2 c3
    have Hk4 := Lib.hid hk4
    have Hb3 := Lib.hid hb3
    clear hk4 hb3
    go_wp2_with fail
    refine (law_good b _).mono ?_
    rintro e w3 ⟨rfl, rfl⟩
    rw [Hg.out]
    go_wp2_with fail
    all_goals
      go_ret
      exact ⟨rfl, Hk4.out⟩

set_option maxRecDepth 8000 in
set_option maxHeartbeats 4000000 in
theorem bback_bad4 (k a c m b : Int) (w : World) (hb : backO ⟨k, a, c, m⟩ b = none)
    (hC : ((goodB b = true ∧ 0 ≤ m ∧ m < b ∧ 0 ≤ a ∧ 0 ≤ c) ∧ k = 3 ∧ b / 4 ≤ a) ∨ ((goodB b = true ∧ 0 ≤ m ∧ m < b ∧ 0 ≤ a ∧ 0 ≤ c) ∧ k = 3 ∧ a < b / 4 ∧ b / 4 ≤ c)) :
    Calls Try.prog 4 #[(Road.mk k a c m).v, .int .i64 b] w (Yes w) := by
  have hN : backN ⟨k, a, c, m⟩ b = 0 := by rw [backN, hb]
  have hE : backE ⟨k, a, c, m⟩ b = 1 := by rw [backE, hb]
  clear hb
  unfold Road.v
  rcases hC with ⟨⟨hg, h1, h2, h3, h4⟩, rfl, h5⟩ | ⟨⟨hg, h1, h2, h3, h4⟩, rfl, h5, h6⟩
  all_goals
    have ht : IntKind.i64.wrap (b.tdiv 4) = b / 4 := by
      have := good_cases hg
      rw [Int.tdiv_eq_ediv_of_nonneg (by omega)]
      exact IntWalk.i64_in _ (by omega)
    have ht2 : wrap64 (b.tdiv 4) = b / 4 := (IntWalk.i64_left _).symm.trans ht
    obtain ⟨t, hte⟩ : ∃ t, t = b / 4 := ⟨_, rfl⟩
    try rw [← hte] at ht
    try rw [← hte] at ht2
    try rw [← hte] at h5
    try rw [← hte] at h6
    clear hte
    have Hg := Lib.hid hg
    have HN := Lib.hid hN
    have HE := Lib.hid hE
    clear hg hN hE
    go_enter Try.func4, Try.ntmps4
    go_wp2_with fail
    refine (known12 _).mono ?_
    rintro e w1 ⟨rfl, hk1⟩
    obtain ⟨hk2, hb2⟩ := bback_out hk1
    clear hk1
    have c0 := hb2.cell 0
    have c1 := hb2.cell 1
    have c2 := hb2.cell 2
    have c3 := hb2.cell 3
    simp at c0 c1 c2 c3
    have Hk2 := Lib.hid hk2
    have Hb2 := Lib.hid hb2
    clear hk2 hb2
    go_wp2_with fail
    refine (back_any ⟨_, a, c, m⟩ b _).mono ?_
    rintro e w2 ⟨he, hk3⟩
    rw [HN.out, HE.out] at he
    subst he
    have hb3 := Hb2.out.keep hk3 (fun h => h)
    have hk4 := Hk2.out.more hk3
    clear c0 c1 c2 c3 hk3
    have c0 := hb3.cell 0
    have c1 := hb3.cell 1
    have c2 := hb3.cell 2
    have c3 := hb3.cell 3
    simp at c0 c1 c2 c3
    have Hk4 := Lib.hid hk4
    have Hb3 := Lib.hid hb3
    clear hk4 hb3
    go_wp2_with fail
    refine (law_good b _).mono ?_
    rintro e w3 ⟨rfl, rfl⟩
    rw [Hg.out]
    go_wp2_with fail
    all_goals
      first
        | (go_ret; exact ⟨rfl, Hk4.out⟩)
        | (exfalso; have hx : (!decide (c < t)) = false := by assumption
           simp at hx; omega)

set_option maxRecDepth 8000 in
set_option maxHeartbeats 4000000 in
theorem bback_bad5 (k a c m b : Int) (w : World) (hb : backO ⟨k, a, c, m⟩ b = none)
    (hC : goodB b = true ∧ 0 ≤ m ∧ m < b ∧ 0 ≤ a ∧ 0 ≤ c ∧ ¬ k = 1 ∧ ¬ k = 2 ∧ ¬ k = 3) :
    Calls Try.prog 4 #[(Road.mk k a c m).v, .int .i64 b] w (Yes w) := by
  have hN : backN ⟨k, a, c, m⟩ b = 0 := by rw [backN, hb]
  have hE : backE ⟨k, a, c, m⟩ b = 1 := by rw [backE, hb]
  clear hb
  unfold Road.v
  rcases hC with ⟨hg, h1, h2, h3, h4, h5, h6, h7⟩
  all_goals
    have Hg := Lib.hid hg
    have HN := Lib.hid hN
    have HE := Lib.hid hE
    clear hg hN hE
    go_enter Try.func4, Try.ntmps4
    go_wp2_with fail
    refine (known12 _).mono ?_
    rintro e w1 ⟨rfl, hk1⟩
    obtain ⟨hk2, hb2⟩ := bback_out hk1
    clear hk1
    have c0 := hb2.cell 0
    have c1 := hb2.cell 1
    have c2 := hb2.cell 2
    have c3 := hb2.cell 3
    simp at c0 c1 c2 c3
    have Hk2 := Lib.hid hk2
    have Hb2 := Lib.hid hb2
    clear hk2 hb2
    go_wp2_with fail
    refine (back_any ⟨_, a, c, m⟩ b _).mono ?_
    rintro e w2 ⟨he, hk3⟩
    rw [HN.out, HE.out] at he
    subst he
    have hb3 := Hb2.out.keep hk3 (fun h => h)
    have hk4 := Hk2.out.more hk3
    clear c0 c1 c2 c3 hk3
    have c0 := hb3.cell 0
    have c1 := hb3.cell 1
    have c2 := hb3.cell 2
    have c3 := hb3.cell 3
    simp at c0 c1 c2 c3
    have Hk4 := Lib.hid hk4
    have Hb3 := Lib.hid hb3
    clear hk4 hb3
    go_wp2_with fail
    refine (law_good b _).mono ?_
    rintro e w3 ⟨rfl, rfl⟩
    rw [Hg.out]
    go_wp2_with fail
    all_goals
      go_ret
      exact ⟨rfl, Hk4.out⟩

theorem backO_good {r : Road} {b : Int} (hg : goodB b = true) (h1 : 0 ≤ r.at_) (h2 : r.at_ < b) : backO r b = blkOf r (b / 4) := if_pos ⟨hg, h1, h2⟩

set_option maxRecDepth 8000 in
set_option maxHeartbeats 4000000 in
theorem bback_ok (k a c m b n : Int) (w : World) (hb : backO ⟨k, a, c, m⟩ b = some n)
    (hC : ((goodB b = true ∧ 0 ≤ m ∧ m < b ∧ 0 ≤ a ∧ 0 ≤ c) ∧ k = 1 ∧ a < 8 ∧ c = 0) ∨ ((goodB b = true ∧ 0 ≤ m ∧ m < b ∧ 0 ≤ a ∧ 0 ≤ c) ∧ k = 2 ∧ a < b / 4 ∧ c = 0) ∨ ((goodB b = true ∧ 0 ≤ m ∧ m < b ∧ 0 ≤ a ∧ 0 ≤ c) ∧ k = 3 ∧ a < b / 4 ∧ c < b / 4)) :
    Calls Try.prog 4 #[(Road.mk k a c m).v, .int .i64 b] w (Yes w) := by
  obtain ⟨o, hN, hE, hFE, hFR, hu⟩ := find_back hb
  clear hb
  unfold Road.v
  rcases hC with ⟨⟨hg, h1, h2, h3, h4⟩, rfl, h5, rfl⟩ | ⟨⟨hg, h1, h2, h3, h4⟩, rfl, h5, rfl⟩ | ⟨⟨hg, h1, h2, h3, h4⟩, rfl, h5, h6⟩
  · skip
    have ht : IntKind.i64.wrap (b.tdiv 4) = b / 4 := by
      have := good_cases hg
      rw [Int.tdiv_eq_ediv_of_nonneg (by omega)]
      exact IntWalk.i64_in _ (by omega)
    have ht2 : wrap64 (b.tdiv 4) = b / 4 := (IntWalk.i64_left _).symm.trans ht
    obtain ⟨t, hte⟩ : ∃ t, t = b / 4 := ⟨_, rfl⟩
    try rw [← hte] at ht
    try rw [← hte] at ht2
    try rw [← hte] at h5
    try rw [← hte] at h6
    clear hte
    have Hg := Lib.hid hg
    have HN := Lib.hid hN
    have HE := Lib.hid hE
    have HFE := Lib.hid hFE
    have HFR := Lib.hid hFR
    clear hg hN hE hFE hFR
    go_enter Try.func4, Try.ntmps4
    go_wp2_with fail
    refine (known12 _).mono ?_
    rintro e w1 ⟨rfl, hk1⟩
    obtain ⟨hk2, hb2⟩ := bback_out hk1
    clear hk1
    have c0 := hb2.cell 0
    have c1 := hb2.cell 1
    have c2 := hb2.cell 2
    have c3 := hb2.cell 3
    simp at c0 c1 c2 c3
    have Hk2 := Lib.hid hk2
    have Hb2 := Lib.hid hb2
    clear hk2 hb2
    go_wp2_with fail
    refine (back_any ⟨1, a, 0, m⟩ b _).mono ?_
    rintro e w2 ⟨he, hk3⟩
    rw [HN.out, HE.out] at he
    subst he
    have hb3 := Hb2.out.keep hk3 (fun h => h)
    have hk4 := Hk2.out.more hk3
    clear c0 c1 c2 c3 hk3
    have c0 := hb3.cell 0
    have c1 := hb3.cell 1
    have c2 := hb3.cell 2
    have c3 := hb3.cell 3
    simp at c0 c1 c2 c3
    have Hk4 := Lib.hid hk4
    have Hb3 := Lib.hid hb3
    clear hk4 hb3
    go_wp2_with fail
    refine (law_good b _).mono ?_
    rintro e w3 ⟨rfl, rfl⟩
    rw [Hg.out]
    go_wp2_with fail
    refine (find_any o b _ hu).mono ?_
    rintro e w3 ⟨he, hk5⟩
    rw [HFR.out, HFE.out] at he
    unfold Road.v at he
    subst he
    have hb4 := Hb3.out.keep hk5 (fun h => h)
    have hk6 := Hk4.out.more hk5
    clear c0 c1 c2 c3 hk5
    have Hk6 := Lib.hid (hk6.alloc (.cells #[.int .i64 1, .int .i64 a, .int .i64 0, .int .i64 m] 25))
    have hb5 := hb4.alloc (.cells #[.int .i64 1, .int .i64 a, .int .i64 0, .int .i64 m] 25)
    have c0 := hb5.cell 0
    have c1 := hb5.cell 1
    have c2 := hb5.cell 2
    have c3 := hb5.cell 3
    simp at c0 c1 c2 c3
    clear hk6 hb4 hb5
    go_wp2_with fail
    all_goals
      go_ret
      exact ⟨rfl, Hk6.out⟩
  · skip
    have ht : IntKind.i64.wrap (b.tdiv 4) = b / 4 := by
      have := good_cases hg
      rw [Int.tdiv_eq_ediv_of_nonneg (by omega)]
      exact IntWalk.i64_in _ (by omega)
    have ht2 : wrap64 (b.tdiv 4) = b / 4 := (IntWalk.i64_left _).symm.trans ht
    obtain ⟨t, hte⟩ : ∃ t, t = b / 4 := ⟨_, rfl⟩
    try rw [← hte] at ht
    try rw [← hte] at ht2
    try rw [← hte] at h5
    try rw [← hte] at h6
    clear hte
    have Hg := Lib.hid hg
    have HN := Lib.hid hN
    have HE := Lib.hid hE
    have HFE := Lib.hid hFE
    have HFR := Lib.hid hFR
    clear hg hN hE hFE hFR
    go_enter Try.func4, Try.ntmps4
    go_wp2_with fail
    refine (known12 _).mono ?_
    rintro e w1 ⟨rfl, hk1⟩
    obtain ⟨hk2, hb2⟩ := bback_out hk1
    clear hk1
    have c0 := hb2.cell 0
    have c1 := hb2.cell 1
    have c2 := hb2.cell 2
    have c3 := hb2.cell 3
    simp at c0 c1 c2 c3
    have Hk2 := Lib.hid hk2
    have Hb2 := Lib.hid hb2
    clear hk2 hb2
    go_wp2_with fail
    refine (back_any ⟨2, a, 0, m⟩ b _).mono ?_
    rintro e w2 ⟨he, hk3⟩
    rw [HN.out, HE.out] at he
    subst he
    have hb3 := Hb2.out.keep hk3 (fun h => h)
    have hk4 := Hk2.out.more hk3
    clear c0 c1 c2 c3 hk3
    have c0 := hb3.cell 0
    have c1 := hb3.cell 1
    have c2 := hb3.cell 2
    have c3 := hb3.cell 3
    simp at c0 c1 c2 c3
    have Hk4 := Lib.hid hk4
    have Hb3 := Lib.hid hb3
    clear hk4 hb3
    go_wp2_with fail
    refine (law_good b _).mono ?_
    rintro e w3 ⟨rfl, rfl⟩
    rw [Hg.out]
    go_wp2_with fail
    refine (find_any o b _ hu).mono ?_
    rintro e w3 ⟨he, hk5⟩
    rw [HFR.out, HFE.out] at he
    unfold Road.v at he
    subst he
    have hb4 := Hb3.out.keep hk5 (fun h => h)
    have hk6 := Hk4.out.more hk5
    clear c0 c1 c2 c3 hk5
    have Hk6 := Lib.hid (hk6.alloc (.cells #[.int .i64 2, .int .i64 a, .int .i64 0, .int .i64 m] 25))
    have hb5 := hb4.alloc (.cells #[.int .i64 2, .int .i64 a, .int .i64 0, .int .i64 m] 25)
    have c0 := hb5.cell 0
    have c1 := hb5.cell 1
    have c2 := hb5.cell 2
    have c3 := hb5.cell 3
    simp at c0 c1 c2 c3
    clear hk6 hb4 hb5
    go_wp2_with fail
    all_goals
      go_ret
      exact ⟨rfl, Hk6.out⟩
  · skip
    have ht : IntKind.i64.wrap (b.tdiv 4) = b / 4 := by
      have := good_cases hg
      rw [Int.tdiv_eq_ediv_of_nonneg (by omega)]
      exact IntWalk.i64_in _ (by omega)
    have ht2 : wrap64 (b.tdiv 4) = b / 4 := (IntWalk.i64_left _).symm.trans ht
    obtain ⟨t, hte⟩ : ∃ t, t = b / 4 := ⟨_, rfl⟩
    try rw [← hte] at ht
    try rw [← hte] at ht2
    try rw [← hte] at h5
    try rw [← hte] at h6
    clear hte
    have Hg := Lib.hid hg
    have HN := Lib.hid hN
    have HE := Lib.hid hE
    have HFE := Lib.hid hFE
    have HFR := Lib.hid hFR
    clear hg hN hE hFE hFR
    go_enter Try.func4, Try.ntmps4
    go_wp2_with fail
    refine (known12 _).mono ?_
    rintro e w1 ⟨rfl, hk1⟩
    obtain ⟨hk2, hb2⟩ := bback_out hk1
    clear hk1
    have c0 := hb2.cell 0
    have c1 := hb2.cell 1
    have c2 := hb2.cell 2
    have c3 := hb2.cell 3
    simp at c0 c1 c2 c3
    have Hk2 := Lib.hid hk2
    have Hb2 := Lib.hid hb2
    clear hk2 hb2
    go_wp2_with fail
    refine (back_any ⟨3, a, c, m⟩ b _).mono ?_
    rintro e w2 ⟨he, hk3⟩
    rw [HN.out, HE.out] at he
    subst he
    have hb3 := Hb2.out.keep hk3 (fun h => h)
    have hk4 := Hk2.out.more hk3
    clear c0 c1 c2 c3 hk3
    have c0 := hb3.cell 0
    have c1 := hb3.cell 1
    have c2 := hb3.cell 2
    have c3 := hb3.cell 3
    simp at c0 c1 c2 c3
    have Hk4 := Lib.hid hk4
    have Hb3 := Lib.hid hb3
    clear hk4 hb3
    go_wp2_with fail
    refine (law_good b _).mono ?_
    rintro e w3 ⟨rfl, rfl⟩
    rw [Hg.out]
    go_wp2_with fail
    refine (find_any o b _ hu).mono ?_
    rintro e w3 ⟨he, hk5⟩
    rw [HFR.out, HFE.out] at he
    unfold Road.v at he
    subst he
    have hb4 := Hb3.out.keep hk5 (fun h => h)
    have hk6 := Hk4.out.more hk5
    clear c0 c1 c2 c3 hk5
    have Hk6 := Lib.hid (hk6.alloc (.cells #[.int .i64 3, .int .i64 a, .int .i64 c, .int .i64 m] 25))
    have hb5 := hb4.alloc (.cells #[.int .i64 3, .int .i64 a, .int .i64 c, .int .i64 m] 25)
    have c0 := hb5.cell 0
    have c1 := hb5.cell 1
    have c2 := hb5.cell 2
    have c3 := hb5.cell 3
    simp at c0 c1 c2 c3
    clear hk6 hb4 hb5
    go_wp2_with fail
    all_goals
      go_ret
      exact ⟨rfl, Hk6.out⟩

theorem bback_any (k a c m b : Int) (w : World) : Calls Try.prog 4 #[(Road.mk k a c m).v, .int .i64 b] w (Yes w) := by
  by_cases hok : ∃ n, backO ⟨k, a, c, m⟩ b = some n
  · obtain ⟨n, hn⟩ := hok
    refine bback_ok k a c m b n w hn ?_
    have h := hn
    unfold backO at h
    split at h
    · rename_i hc
      obtain ⟨hg, h1, h2⟩ := hc
      have hs := good_cases hg
      unfold blkOf at h
      split at h
      · rename_i hc
        have hc2 := inB_le hc.2.1
        exact .inl ⟨⟨hg, h1, h2, hc2.1, by have := hc.2.2; simp only at this; omega⟩, hc.1, hc2.2, hc.2.2⟩
      · split at h
        · rename_i hc
          have hc2 := inB_le hc.2.1
          exact .inr (.inl ⟨⟨hg, h1, h2, hc2.1, by have := hc.2.2; simp only at this; omega⟩, hc.1, hc2.2, hc.2.2⟩)
        · split at h
          · rename_i hc
            have hc2 := inB_le hc.2.1
            have hc3 := inB_le hc.2.2
            exact .inr (.inr ⟨⟨hg, h1, h2, hc2.1, hc3.1⟩, hc.1, hc2.2, hc3.2⟩)
          · cases h
    · cases h
  · have hn : backO ⟨k, a, c, m⟩ b = none := by
      cases h : backO ⟨k, a, c, m⟩ b with
      | none => rfl
      | some n => exact absurd ⟨n, h⟩ hok
    cases hg : goodB b with
    | false => exact bback_bad1 k a c m b w hn (.inl hg)
    | true =>
      have hs := good_cases hg
      by_cases h1 : m < 0
      · exact bback_bad1 k a c m b w hn (.inr (.inl ⟨hg, h1⟩))
      by_cases h2 : b ≤ m
      · exact bback_bad1 k a c m b w hn (.inr (.inr (.inl ⟨hg, by omega, h2⟩)))
      by_cases h3 : a < 0
      · exact bback_bad1 k a c m b w hn (.inr (.inr (.inr (.inl ⟨hg, by omega, by omega, h3⟩))))
      by_cases h4 : c < 0
      · exact bback_bad1 k a c m b w hn (.inr (.inr (.inr (.inr ⟨hg, by omega, by omega, by omega, h4⟩))))
      have hG : goodB b = true ∧ 0 ≤ m ∧ m < b ∧ 0 ≤ a ∧ 0 ≤ c := ⟨hg, by omega, by omega, by omega, by omega⟩
      have hO := hn
      rw [backO_good hg (show 0 ≤ m by omega) (show m < b by omega)] at hO
      by_cases k1 : k = 1
      · by_cases h5 : 8 ≤ a
        · exact bback_bad2 k a c m b w hn (.inl ⟨hG, k1, h5⟩)
        by_cases h6 : c = 0
        · rw [blkOf, if_pos ⟨k1, inB_of (by constructor <;> simp only <;> omega), h6⟩] at hO; cases hO
        · exact bback_bad2 k a c m b w hn (.inr ⟨hG, k1, by omega, h6⟩)
      by_cases k2 : k = 2
      · by_cases h5 : b / 4 ≤ a
        · exact bback_bad3 k a c m b w hn (.inl ⟨hG, k2, h5⟩)
        by_cases h6 : c = 0
        · rw [blkOf, if_neg (fun h => k1 h.1), if_pos ⟨k2, inB_of (by constructor <;> simp only <;> omega), h6⟩] at hO; cases hO
        · exact bback_bad3 k a c m b w hn (.inr ⟨hG, k2, by omega, h6⟩)
      by_cases k3 : k = 3
      · by_cases h5 : b / 4 ≤ a
        · exact bback_bad4 k a c m b w hn (.inl ⟨hG, k3, h5⟩)
        by_cases h6 : b / 4 ≤ c
        · exact bback_bad4 k a c m b w hn (.inr ⟨hG, k3, by omega, h6⟩)
        · rw [blkOf, if_neg (fun h => k1 h.1), if_neg (fun h => k2 h.1), if_pos ⟨k3, inB_of (by constructor <;> simp only <;> omega), inB_of (by constructor <;> simp only <;> omega)⟩] at hO; cases hO
      · exact bback_bad5 k a c m b w hn ⟨hG.1, hG.2.1, hG.2.2.1, hG.2.2.2.1, hG.2.2.2.2, k1, k2, k3⟩
end Go.Proofs.Ytnccgmffgmfinaa
