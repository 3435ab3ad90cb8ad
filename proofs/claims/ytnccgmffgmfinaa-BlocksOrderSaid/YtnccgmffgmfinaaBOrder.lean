/-
  loggialaw12.BlocksOrder: the walk.
-/
import Derived.Test.YtnccgmffgmfinaaBPlain
import Derived.BigQuiet
namespace Go.Proofs.Ytnccgmffgmfinaa
open Go.RowKit

set_option maxRecDepth 8000 in
set_option maxHeartbeats 4000000 in
theorem border_no (x y : Nat) (b : Int) (w : World) (hx : x < 4294967296) (hy : y < 4294967296) (hC : goodB b = false ∨ (goodB b = true ∧ mostB b ≤ x) ∨ (goodB b = true ∧ x < mostB b ∧ mostB b ≤ y)) :
    Calls Try.prog 6 #[.int .u32 x, .int .u32 y, .int .i64 b] w (Yes w) := by
  have f1 : IntKind.u64.wrap (x : Int) = x := by rw [IntKind.wrap_u64]; omega
  have f2 : IntKind.u64.wrap (y : Int) = y := by rw [IntKind.wrap_u64]; omega
  obtain ⟨M, hM⟩ : ∃ M, M = mostB b := ⟨_, rfl⟩
  rw [← hM] at hC
  have HM := Lib.hid hM
  clear hM
  rcases hC with hg | ⟨hg, h1⟩ | ⟨hg, h1, h2⟩
  · have Hg := Lib.hid hg
    clear hg
    go_enter Try.func6, Try.ntmps6
    go_wp2_with fail
    refine (known12 _).mono ?_
    rintro e w1 ⟨rfl, hk1⟩
    have Hk1 := Lib.hid hk1
    clear hk1
    go_wp2_with fail
    refine (law_good b _).mono ?_
    rintro e w4 ⟨rfl, rfl⟩
    rw [Hg.out]
    go_wp2_with fail
    go_ret
    exact ⟨rfl, Hk1.out⟩
  · have g1 : (M : Int) ≤ x := by omega
    have Hg := Lib.hid hg
    clear hg
    go_enter Try.func6, Try.ntmps6
    go_wp2_with fail
    refine (known12 _).mono ?_
    rintro e w1 ⟨rfl, hk1⟩
    have Hk1 := Lib.hid hk1
    clear hk1
    go_wp2_with fail
    refine (law_good b _).mono ?_
    rintro e w4 ⟨rfl, rfl⟩
    rw [Hg.out]
    go_wp2_with fail
    refine (law_most b _).mono ?_
    rintro e w4 ⟨rfl, rfl⟩
    rw [← HM.out]
    go_wp2_with fail
    go_ret
    exact ⟨rfl, Hk1.out⟩
  · have g1 : ¬ (M : Int) ≤ x := by omega
    have g2 : (M : Int) ≤ y := by omega
    have Hg := Lib.hid hg
    clear hg
    go_enter Try.func6, Try.ntmps6
    go_wp2_with fail
    refine (known12 _).mono ?_
    rintro e w1 ⟨rfl, hk1⟩
    have Hk1 := Lib.hid hk1
    clear hk1
    go_wp2_with fail
    refine (law_good b _).mono ?_
    rintro e w4 ⟨rfl, rfl⟩
    rw [Hg.out]
    go_wp2_with fail
    refine (law_most b _).mono ?_
    rintro e w4 ⟨rfl, rfl⟩
    rw [← HM.out]
    go_wp2_with fail
    refine (law_most b _).mono ?_
    rintro e w4 ⟨rfl, rfl⟩
    rw [← HM.out]
    go_wp2_with fail
    go_ret
    exact ⟨rfl, Hk1.out⟩

/-- what the two roads have to do with one another -/
def Tied (k k' p p' q q' : Int) (m m' x y : Nat) (X Y : Int) : Prop :=
  (k' = k ∧ p' = p ∧ q' = q ∧ Y = X ∧ (m : Int) - m' = (x : Int) - y) ∨ ((k == k') = false ∧ (X == Y) = false) ∨ (k' = k ∧ (p == p') = false ∧ (X == Y) = false) ∨ (k' = k ∧ p' = p ∧ (q == q') = false ∧ (X == Y) = false)

theorem key_tied (x y : Nat) {B t : Nat} (ht : 0 < t) (hB : 0 < B) (hx : x < B * (8 + t + t * t)) (hy : y < B * (8 + t + t * t)) :
    Tied (keyR (x / B) t (x % B)).k (keyR (y / B) t (y % B)).k (keyR (x / B) t (x % B)).a (keyR (y / B) t (y % B)).a (keyR (x / B) t (x % B)).b (keyR (y / B) t (y % B)).b (x % B) (y % B) x y ((x / B : Nat) : Int) ((y / B : Nat) : Int) := by
  have hn : x / B < 8 + t + t * t := Nat.div_lt_of_lt_mul hx
  have hn' : y / B < 8 + t + t * t := Nat.div_lt_of_lt_mul hy
  have hdx := Nat.div_add_mod x B
  have hdy := Nat.div_add_mod y B
  unfold Tied
  by_cases he : x / B = y / B
  · have hs := key_same (x / B) t (x % B) (y % B)
    rw [he] at hs hdx
    rw [he]
    refine .inl ⟨hs.1.symm, hs.2.1.symm, hs.2.2.symm, rfl, ?_⟩
    omega
  · have hX : (((x / B : Nat) : Int) == ((y / B : Nat) : Int)) = false := by simp; omega
    refine .inr ?_
    by_cases hk : (keyR (x / B) t (x % B)).k = (keyR (y / B) t (y % B)).k
    · by_cases ha : (keyR (x / B) t (x % B)).a = (keyR (y / B) t (y % B)).a
      · by_cases hb : (keyR (x / B) t (x % B)).b = (keyR (y / B) t (y % B)).b
        · exact absurd (key_inj ht hn hn' hk ha hb) he
        · exact .inr (.inr ⟨hk.symm, ha.symm, by simpa using hb, hX⟩)
      · exact .inr (.inl ⟨hk.symm, by simpa using ha, hX⟩)
    · exact .inl ⟨by simpa using hk, hX⟩

theorem two_roads {w w2 w3 : World} {c : Array Value} (hk : Keeps nowhere w w2) (hk4 : Keeps nowhere (w2.alloc (.cells c 25)) w3) (c' : Array Value) :
    Blk (w3.alloc (.cells c' 25)) w2.heap.size 25 c ∧ Blk (w3.alloc (.cells c' 25)) w3.heap.size 25 c' ∧ Keeps nowhere w (w3.alloc (.cells c' 25)) :=
  ⟨((Blk.new w2 _ _).keep hk4 (fun h => h)).alloc _, Blk.new w3 _ _, ((hk.alloc _).more hk4).alloc _⟩

set_option maxRecDepth 8000 in
set_option maxHeartbeats 8000000 in
theorem border_ok (x y : Nat) (b : Int) (w : World) (hx : x < 4294967296) (hy : y < 4294967296) (hg : goodB b = true) (h1 : x < mostB b) (h2 : y < mostB b) :
    Calls Try.prog 6 #[.int .u32 x, .int .u32 y, .int .i64 b] w (Yes w) := by
  have f1 : IntKind.u64.wrap (x : Int) = x := by rw [IntKind.wrap_u64]; omega
  have f2 : IntKind.u64.wrap (y : Int) = y := by rw [IntKind.wrap_u64]; omega
  have f3 : IntKind.i64.wrap (x : Int) = x := IntWalk.i64_in _ (by omega)
  have f4 : IntKind.i64.wrap (y : Int) = y := IntWalk.i64_in _ (by omega)
  have hE := findE_ok hg h1
  have hE' := findE_ok hg h2
  have hR := findR_ok hg h1
  have hR' := findR_ok hg h2
  obtain ⟨M, hM⟩ : ∃ M, M = mostB b := ⟨_, rfl⟩
  obtain ⟨B, t, rfl, ht, ht1, ht2, hBt, hm⟩ := good_nat hg
  rw [hm] at h1 h2
  have hT := key_tied x y (show 0 < t by omega) (show 0 < B by omega) h1 h2
  rw [← hm, ← hM] at h1 h2
  rw [Int.toNat_natCast, road_key, ← ht] at hR hR'
  have hmx : (keyR (x / B) t (x % B)).at_ = (x % B : Nat) := key_at _ _ _
  have hmy : (keyR (y / B) t (y % B)).at_ = (y % B : Nat) := key_at _ _ _
  generalize keyR (x / B) t (x % B) = R1 at hT hR hmx
  generalize keyR (y / B) t (y % B) = R2 at hT hR' hmy
  obtain ⟨k, p, q, m⟩ := R1
  obtain ⟨k', p', q', m'⟩ := R2
  simp only at hT hmx hmy
  have hmb : x % B ≤ x := Nat.mod_le _ _
  have hmb' : y % B ≤ y := Nat.mod_le _ _
  subst hmx hmy
  obtain ⟨mx, hmx⟩ : ∃ mx, mx = x % B := ⟨_, rfl⟩
  obtain ⟨my, hmy⟩ : ∃ my, my = y % B := ⟨_, rfl⟩
  have d1 : (x : Int).tdiv B = ((x / B : Nat) : Int) := by rw [Int.tdiv_eq_ediv_of_nonneg (by omega)]; simp
  have d2 : (y : Int).tdiv B = ((y / B : Nat) : Int) := by rw [Int.tdiv_eq_ediv_of_nonneg (by omega)]; simp
  have d3 : (x : Int) / B = ((x / B : Nat) : Int) := by simp
  have d4 : (y : Int) / B = ((y / B : Nat) : Int) := by simp
  have hxb : x / B ≤ x := Nat.div_le_self _ _
  have hyb : y / B ≤ y := Nat.div_le_self _ _
  obtain ⟨X, hX⟩ : ∃ X, X = x / B := ⟨_, rfl⟩
  obtain ⟨Y, hY⟩ : ∃ Y, Y = y / B := ⟨_, rfl⟩
  rw [← hX] at d1 d3 hxb hT
  rw [← hY] at d2 d4 hyb hT
  rw [← hmx] at hT hmb hR
  rw [← hmy] at hT hmb' hR'
  have hb0 : ¬ (B : Int) = 0 := by omega
  have g1 : ¬ (M : Int) ≤ x := by omega
  have g2 : ¬ (M : Int) ≤ y := by omega
  have q1 : IntKind.i64.wrap (X : Int) = X := IntWalk.i64_in _ (by omega)
  have q2 : IntKind.i64.wrap (Y : Int) = Y := IntWalk.i64_in _ (by omega)
  have q3 : IntKind.i64.wrap ((mx : Int) - my) = mx - my := IntWalk.i64_in _ (by omega)
  have q4 : IntKind.i64.wrap ((x : Int) - y) = x - y := IntWalk.i64_in _ (by omega)
  have hu : x < 18446744073709551616 := by omega
  have hu' : y < 18446744073709551616 := by omega
  have HE := Lib.hid hE
  have HE' := Lib.hid hE'
  have HR := Lib.hid hR
  have HR' := Lib.hid hR'
  have HM := Lib.hid hM
  have HX := Lib.hid hX
  have HY := Lib.hid hY
  have Hmx := Lib.hid hmx
  have Hmy := Lib.hid hmy
  have Hm := Lib.hid hm
  have Ht := Lib.hid ht
  have HBt := Lib.hid hBt
  have Hg := Lib.hid hg
  clear hE hE' hR hR' hM hX hY hmx hmy hm ht hBt hg
  unfold Tied at hT
  rcases hT with ⟨rfl, rfl, rfl, e1, e2⟩ | ⟨e1, e2⟩ | ⟨rfl, e1, e2⟩ | ⟨rfl, rfl, e1, e2⟩
  all_goals
    go_enter Try.func6, Try.ntmps6
    go_wp2_with fail
    refine (known12 _).mono ?_
    rintro e w1 ⟨rfl, hk1⟩
    go_wp2_with fail
    refine (law_good B _).mono ?_
    rintro e w4 ⟨rfl, rfl⟩
    rw [Hg.out]
    go_wp2_with fail
    refine (law_most B _).mono ?_
    rintro e w4 ⟨rfl, rfl⟩
    rw [← HM.out]
    go_wp2_with fail
    refine (law_most B _).mono ?_
    rintro e w4 ⟨rfl, rfl⟩
    rw [← HM.out]
    go_wp2_with fail
    refine (find_any x B _ hu).mono ?_
    rintro e w2 ⟨he, hk2⟩
    rw [HR.out, HE.out] at he
    unfold Road.v at he
    subst he
    have hk3 := hk1.more hk2
    clear hk1 hk2
    have Hk3 := Lib.hid hk3
    clear hk3
    go_wp2_with fail
    refine (find_any y B _ hu').mono ?_
    rintro e w3 ⟨he, hk4⟩
    rw [HR'.out, HE'.out] at he
    unfold Road.v at he
    subst he
    obtain ⟨hb1, hb2, hk5⟩ := two_roads Hk3.out hk4 #[.int .i64 k', .int .i64 p', .int .i64 q', .int .i64 my]
    clear hk4
    have c0 := hb1.cell 0
    have c1 := hb1.cell 1
    have c2 := hb1.cell 2
    have c3 := hb1.cell 3
    have d0 := hb2.cell 0
    have d1' := hb2.cell 1
    have d2' := hb2.cell 2
    have d3' := hb2.cell 3
    simp at c0 c1 c2 c3 d0 d1' d2' d3'
    have Hk5 := Lib.hid hk5
    clear hk5 hb1 hb2
    go_wp2_with fail
    go_quiet (fail)
    go_wp2_with fail
    all_goals
      go_ret
      exact ⟨rfl, Hk5.out.drewN _⟩

theorem border_any (x y : Nat) (b : Int) (w : World) (hx : x < 4294967296) (hy : y < 4294967296) : Calls Try.prog 6 #[.int .u32 x, .int .u32 y, .int .i64 b] w (Yes w) := by
  cases hg : goodB b with
  | false => exact border_no x y b w hx hy (.inl hg)
  | true =>
    by_cases h1 : mostB b ≤ x
    · exact border_no x y b w hx hy (.inr (.inl ⟨hg, h1⟩))
    by_cases h2 : mostB b ≤ y
    · exact border_no x y b w hx hy (.inr (.inr ⟨hg, by omega, h2⟩))
    · exact border_ok x y b w hx hy hg (by omega) (by omega)
end Go.Proofs.Ytnccgmffgmfinaa
