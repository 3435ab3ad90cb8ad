/-
  bitmap: New, Free, Run, Take.
-/
import Derived.Test.YtbckbnmpeedodaaMap1
import Derived.Test.YtbckbnmpeedodaaClone
namespace Go.Proofs.Ytbckbnmpeedodaa
open Go.RowKit

theorem made_zero (n : Nat) : (madeCells #[Value.int .u8 0] ((n + 7) / 8)).toList = (bytesOf n fun _ => false).map bv := by
  apply List.ext_getElem?
  intro j
  by_cases hj : j < (n + 7) / 8
  · rw [bytesOf_get _ _ _ hj]
    unfold byteN; simp [madeCells, hj, Value.cells, Nat.mod_one]
  · rw [List.getElem?_eq_none (by simp [madeCells]; omega), List.getElem?_eq_none (by simp [bytesOf_len]; omega)]
/-- memory that is owned, as a block -/
theorem own_blk {w : World} {base : Nat} {e : TypeId} {g n cap : Nat} {xs : List Value} (h : w.ownsRow base e 1 (.slice (some ⟨g, 0, none⟩) n cap) n xs) : ∃ rest, Blk w g e (xs ++ rest).toArray ∧ n ≤ cap ∧ cap ≤ maxLen ∧ base ≤ g := by
  obtain ⟨h1, h2⟩ := h
  rcases h2 with ⟨h2, _⟩ | ⟨g', cap', cur, hv, hb, hg, h3, h4, h5, h6⟩
  · cases h2
  · injection hv with ha hn hc
    injection ha with ha
    injection ha with ha
    subst ha hc
    refine ⟨cur.toList.drop n, ?_, h3, h4, hb⟩
    rw [Nat.mul_one] at h6
    rw [← h6, List.take_append_drop]
    exact hg

def RetNew (n : Nat) (w : World) : Ending → World → Prop := fun e w' =>
  ∃ p g, e = .returned (.tuple #[mp p, .int .i64 0]) ∧ w.heap.size ≤ p ∧ w.heap.size ≤ g ∧ MapAt w' p g n (fun _ => false) ∧ Keeps nowhere w w'

theorem new_ok (n : Nat) (w : World) (h1 : 1 ≤ n) (h2 : n ≤ 65536) : Calls Try.prog 37 #[.int .i64 n] w (RetNew n w) := by
  have g1 : ¬ (n : Int) < 1 := by omega
  have g2 : ¬ (n : Int) > 65536 := by omega
  have g3 : IntKind.i64.wrap ((n : Int) + 7) = (n : Int) + 7 := IntWalk.i64_in _ (by omega)
  have g4 : (((n : Int) + 7) / 8).toNat = (n + 7) / 8 := by omega
  go_enter Try.func37, Try.ntmps37
  obtain ⟨i0, hi, hz0, hz1, hz2⟩ := info_parts infoU8
  go_wp2_with (at_make; refine wpList_make_full _ rfl _ _ 28 rfl w.heap.size 5 i0 (.int .u8 0) 1 Try.underlying28 hi hz0 hz1 .i64 .i64 _ _ ((n + 7) / 8) rfl rfl (by omega) (by omega) (by rw [hz2]; omega) (by unfold maxLen; omega) (Nat.le_refl _) ?_)
  intro w1 hown hgrow
  rw [made_zero] at hown
  obtain ⟨rest, hb, h3, h4, h5⟩ := own_blk hown
  have hk1 : Keeps nowhere w w1 := (Keeps.refl _ w).grown hgrow (fun _ h => by cases h)
  have hsz := hk1.size
  have hb2 := hb.alloc (.cells #[.int .i64 n, .slice (some ⟨w.heap.size, 0, none⟩) ((n + 7) / 8) ((n + 7) / 8), .int .i64 n] 85)
  have hm := Blk.new w1 85 #[.int .i64 n, .slice (some ⟨w.heap.size, 0, none⟩) ((n + 7) / 8) ((n + 7) / 8), .int .i64 n]
  have hc : cntF (fun _ => false) n = n := cntF_all _ (fun _ _ => rfl)
  have Hown := Lib.hid hown
  have Hgrow := Lib.hid hgrow
  have Hb := Lib.hid hb
  have Hk1 := Lib.hid hk1
  have Hb2 := Lib.hid hb2
  have Hm := Lib.hid hm
  have Hc := Lib.hid hc
  clear hown hgrow hb hk1 hb2 hm hc
  go_wp2_with fail
  go_ret2
  refine ⟨w1.heap.size, w.heap.size, rfl, hsz, Nat.le_refl _, ⟨h1, h2, fun _ _ => rfl, _, rest, ?_, Hb2.out, h3, h4⟩, Hk1.out.alloc _⟩
  rw [Hc.out]
  exact Hm.out

theorem new_bad (n : Int) (w : World) (h : n < 1 ∨ (¬ n < 1 ∧ n > 65536)) : Calls Try.prog 37 #[.int .i64 n] w (Same (.returned (.tuple #[.pointer none, .int .i64 1])) w) := by
  rcases h with h | ⟨h, h'⟩
  all_goals
    go_enter Try.func37, Try.ntmps37
    go_wp2_with fail
    go_ret2
    exact ⟨rfl, rfl⟩

theorem free_any (w : World) (p g n : Nat) (f : Nat → Bool) (h : MapAt w p g n f) : Calls Try.prog 41 #[mp p] w (Same (.returned (.int .i64 (cntF f n))) w) := by
  obtain ⟨n1, n2, hoff, cap, rest, h1, h2, h3⟩ := h
  have c2 := h1.cell 2
  simp at c2
  clear h1 h2 hoff
  unfold mp
  go_enter Try.func41, Try.ntmps41
  go_wp2_with fail
  go_ret
  exact ⟨rfl, rfl⟩

theorem setM_in {n i : Nat} (f : Nat → Bool) {b : Bool} (h : i < n) : setM n f (i : Int) b = upd f i b := by
  rw [setM, if_pos (show inM n (i : Int) = true from decide_eq_true (by omega)), Int.toNat_natCast]
/-- `k` free places from `i` on -/
def IsRun (f : Nat → Bool) (n k i : Nat) : Prop := i + k ≤ n ∧ ∀ j, j < k → f (i + j) = false
def Least (f : Nat → Bool) (n k i : Nat) : Prop := IsRun f n k i ∧ ∀ i', i' < i → ¬ IsRun f n k i'
def fill (f : Nat → Bool) (i k : Nat) : Nat → Bool := fun j => if i ≤ j ∧ j < i + k then true else f j
theorem fill_zero (f : Nat → Bool) (i : Nat) : fill f i 0 = f := by funext j; unfold fill; rw [if_neg (by omega)]
theorem fill_down (f : Nat → Bool) (i x : Nat) (hx : x ≤ i) : upd (fill f (i + 1 - x) x) (i - x) true = fill f (i + 1 - (x + 1)) (x + 1) := by
  funext j; unfold upd fill
  by_cases h : j = i - x
  · rw [if_pos h, if_pos (by omega)]
  · rw [if_neg h]
    by_cases h2 : i + 1 - x ≤ j ∧ j < i + 1 - x + x
    · rw [if_pos h2, if_pos (by omega)]
    · rw [if_neg h2, if_neg (by omega)]

def RunPost (f : Nat → Bool) (n k : Nat) (e : Ending) (f' : Nat → Bool) : Prop :=
  (∃ i : Nat, Least f n k i ∧ e = .returned (.tuple #[.int .i64 i, .int .i64 0]) ∧ f' = fill f i k) ∨ ((∀ i, ¬ IsRun f n k i) ∧ e = .returned (.tuple #[.int .i64 0, .int .i64 14]) ∧ f' = f)
def RetRun (p g : Nat) (f : Nat → Bool) (n k : Nat) (w : World) : Ending → World → Prop := fun e w' =>
  ∃ f', RunPost f n k e f' ∧ MapAt w' p g n f' ∧ Keeps (only2 p (some g)) w w'

theorem run_bad (w : World) (p : Nat) (k : Int) (h : k < 1) : Calls Try.prog 39 #[mp p, .int .i64 k] w (Same (.returned (.tuple #[.int .i64 0, .int .i64 1])) w) := by
  unfold mp
  go_enter Try.func39, Try.ntmps39
  go_wp2_with fail
  go_ret2
  exact ⟨rfl, rfl⟩

/-- where the search stands before place `i`: the last `r` places are free, and no run has ended -/
def Seek (f : Nat → Bool) (k i r : Nat) : Prop :=
  r ≤ i ∧ r < k ∧ (∀ j, j < r → f (i - r + j) = false) ∧ (r < i → f (i - r - 1) = true) ∧ ∀ s, s + k ≤ i → ∃ j, j < k ∧ f (s + j) = true
theorem seek_taken {f : Nat → Bool} {k i r : Nat} (h1 : 1 ≤ k) (h : Seek f k i r) (hf : f i = true) : Seek f k (i + 1) 0 :=
  ⟨Nat.zero_le _, h1, fun j hj => absurd hj (by omega), fun _ => hf, fun s hs => by
    by_cases he : s + k ≤ i
    · exact h.2.2.2.2 s he
    · exact ⟨k - 1, by omega, by rw [show s + (k - 1) = i by omega]; exact hf⟩⟩
theorem seek_free {f : Nat → Bool} {k i r : Nat} (h : Seek f k i r) (hf : f i = false) (hr : r + 1 < k) : Seek f k (i + 1) (r + 1) := by
  obtain ⟨a1, a2, a3, a4, a5⟩ := h
  refine ⟨by omega, hr, fun j hj => ?_, fun hi => ?_, fun s hs => ?_⟩
  · rw [show i + 1 - (r + 1) + j = i - r + j by omega]
    by_cases he : j < r
    · exact a3 j he
    · rw [show i - r + j = i by omega]; exact hf
  · rw [show i + 1 - (r + 1) - 1 = i - r - 1 by omega]; exact a4 (by omega)
  · by_cases he : s + k ≤ i
    · exact a5 s he
    · exact ⟨i - r - 1 - s, by omega, by rw [show s + (i - r - 1 - s) = i - r - 1 by omega]; exact a4 (by omega)⟩
theorem seek_done {f : Nat → Bool} {n k i r : Nat} (h : Seek f k i r) (hf : f i = false) (hr : k = r + 1) (hn : i < n) : Least f n k (i + 1 - k) := by
  obtain ⟨a1, a2, a3, a4, a5⟩ := h
  refine ⟨⟨by omega, fun j hj => ?_⟩, fun i' hi' hrun => ?_⟩
  · rw [show i + 1 - k + j = i - r + j by omega]
    by_cases he : j < r
    · exact a3 j he
    · rw [show i - r + j = i by omega]; exact hf
  · obtain ⟨j, hj, ht⟩ := a5 i' (by omega)
    rw [hrun.2 j hj] at ht; cases ht
theorem seek_end {f : Nat → Bool} {n k r : Nat} (h : Seek f k n r) (i : Nat) : ¬ IsRun f n k i := fun hrun => by
  obtain ⟨j, hj, ht⟩ := h.2.2.2.2 i hrun.1
  rw [hrun.2 j hj] at ht; cases ht

set_option maxHeartbeats 1000000 in
theorem run_any (w : World) (p g n k : Nat) (f : Nat → Bool) (h : MapAt w p g n f) (h1 : 1 ≤ k) (hk63 : k < 9223372036854775808) : Calls Try.prog 39 #[mp p, .int .i64 k] w (RetRun p g f n k w) := by
  have hM := h
  have hlt := h.lt
  obtain ⟨n1, n2, hoff, cap, rest, hb1, hb2, h3⟩ := h
  have c0 := hb1.cell 0
  simp at c0
  clear hb1 hb2 h3
  have g1 : ¬ (k : Int) < 1 := by omega
  have Hoff := Lib.hid hoff
  have HM := Lib.hid hM
  clear hoff hM
  unfold mp
  go_enter Try.func39, Try.ntmps39
  go_wp2_with fail
  go_loopw [6, 15] (fun rv iv wr => wr = w ∧ ∃ i r : Nat, iv = .int .i64 i ∧ rv = .int .i64 r ∧ i ≤ n ∧ Seek f k i r) (fun _ iv _ => n - (intOf iv).toNat)
  case atStart => exact ⟨rfl, 0, 0, rfl, rfl, Nat.zero_le _, Nat.le_refl _, h1, fun j hj => absurd hj (by omega), fun h => absurd h (by omega), fun s hs => absurd hs (by omega)⟩
  case round =>
    obtain ⟨rfl, i, r, rfl, rfl, hin, hs⟩ := hrel
    by_cases hlt2 : i < n
    · have hw1 : IntKind.i64.wrap ((r : Int) + 1) = r + 1 := IntWalk.i64_in _ (by have := hs.1; omega)
      have hw2 : IntKind.i64.wrap ((i : Int) + 1) = i + 1 := IntWalk.i64_in _ (by omega)
      have hH := has_any wr p g n f i HM.out
      rw [hasM_nat] at hH
      unfold mp at hH
      cases hf : f i with
      | true =>
        rw [hf] at hH
        have hk0 : ¬ (k : Int) ≤ 0 := by omega
        have hk1 : (0 : Int) < k := by omega
        have Hs := Lib.hid hs
        clear hs
        go_wp2_with fail
        refine hH.mono ?_
        rintro e w1 ⟨rfl, rfl⟩
        go_wp2_with fail
        go_roundw
        case rel => exact ⟨trivial, i + 1, 0, by simp, rfl, by omega, seek_taken h1 Hs.out hf⟩
        case measure => simp [intOf]; omega
      | false =>
        rw [hf] at hH
        by_cases hrk : r + 1 < k
        · have hk0 : (r : Int) + 1 < k := by omega
          have Hs := Lib.hid hs
          clear hs
          go_wp2_with fail
          refine hH.mono ?_
          rintro e w1 ⟨rfl, rfl⟩
          go_wp2_with fail
          go_roundw
          case rel => exact ⟨trivial, i + 1, r + 1, by simp, by simp, by omega, seek_free Hs.out hf hrk⟩
          case measure => simp [intOf]; omega
        · have hke : k = r + 1 := by have := hs.2.1; omega
          have hri := hs.1
          have hleast := seek_done hs hf hke hlt2
          have hk0 : ¬ (r : Int) + 1 < k := by omega
          have Hs := Lib.hid hs
          have Hleast := Lib.hid hleast
          have Hke := Lib.hid hke
          clear hs hleast hke
          go_wp2_with fail
          refine hH.mono ?_
          rintro e w1 ⟨rfl, rfl⟩
          go_wp2_with fail
          go_loopw [27] (fun xv w2 => ∃ x : Nat, xv = .int .i64 x ∧ x ≤ k ∧ MapAt w2 p g n (fill f (i + 1 - x) x) ∧ Keeps (only2 p (some g)) wr w2) (fun xv _ => k - (intOf xv).toNat)
          case atStart => exact ⟨0, rfl, Nat.zero_le _, by rw [fill_zero]; exact HM.out, Keeps.refl _ _⟩
          case round =>
            obtain ⟨x, rfl, hxk, hm2, hk2⟩ := hrel
            by_cases hxl : x < k
            · have hxi : x ≤ i := by have := Hke.out; omega
              have hw3 : IntKind.i64.wrap ((i : Int) - x) = ((i - x : Nat) : Int) := by
                rw [show (i : Int) - x = ((i - x : Nat) : Int) by omega]; exact IntWalk.i64_in _ (by omega)
              have hw4 : IntKind.i64.wrap ((x : Int) + 1) = x + 1 := IntWalk.i64_in _ (by omega)
              have Hk2 := Lib.hid hk2
              have Hm2 := Lib.hid hm2
              clear hk2 hm2
              go_wp2_with fail
              refine (set_any _ p g n _ _ Hm2.out).mono ?_
              rintro e w3 ⟨rfl, hm3, hk3⟩
              rw [setM_in _ (by omega), fill_down f i x (by omega)] at hm3
              have hk4 := Hk2.out.trans hk3 (fun _ _ h => h)
              clear hk3
              have Hm3 := Lib.hid hm3
              have Hk4 := Lib.hid hk4
              clear hm3 hk4
              go_wp2_with fail
              go_roundw
              case rel => exact ⟨x + 1, by simp, by omega, Hm3.out, Hk4.out⟩
              case measure => simp [intOf]; omega
            · obtain rfl : x = k := by omega
              have hxi : x ≤ i + 1 := by have := Hke.out; omega
              have hw5 : IntKind.i64.wrap ((i : Int) + 1) = i + 1 := IntWalk.i64_in _ (by omega)
              have hw6 : IntKind.i64.wrap ((i : Int) + 1 - x) = ((i + 1 - x : Nat) : Int) := by
                rw [show (i : Int) + 1 - x = ((i + 1 - x : Nat) : Int) by omega]; exact IntWalk.i64_in _ (by omega)
              have Hk2 := Lib.hid hk2
              have Hm2 := Lib.hid hm2
              clear hk2 hm2
              go_wp2_with fail
              go_ret2
              exact ⟨_, .inl ⟨_, Hleast.out, rfl, rfl⟩, Hm2.out, Hk2.out⟩
    · obtain rfl : i = n := by omega
      have hno := seek_end hs
      have Hs := Lib.hid hs
      have Hno := Lib.hid hno
      clear hs hno
      go_wp2_with fail
      go_ret2
      exact ⟨_, .inr ⟨Hno.out, rfl, rfl⟩, HM.out, Keeps.refl _ _⟩

def RetTake (p g : Nat) (f : Nat → Bool) (n : Nat) (w : World) : Ending → World → Prop := RetRun p g f n 1 w
theorem take_any (w : World) (p g n : Nat) (f : Nat → Bool) (h : MapAt w p g n f) : Calls Try.prog 38 #[mp p] w (RetRun p g f n 1 w) := by
  have hR := run_any w p g n 1 f h (Nat.le_refl _) (by omega)
  unfold mp at hR ⊢
  have HR := Lib.hid hR
  clear hR
  go_enter Try.func38, Try.ntmps38
  go_wp2_with fail
  refine HR.out.mono ?_
  rintro e w1 ⟨f', hp, hm, hk⟩
  rcases hp with ⟨i, hl, rfl, rfl⟩ | ⟨hn, rfl, rfl⟩
  all_goals
    go_wp2_with fail
    go_ret2
  · exact ⟨_, .inl ⟨i, hl, rfl, rfl⟩, hm, hk⟩
  · exact ⟨_, .inr ⟨hn, rfl, rfl⟩, hm, hk⟩
end Go.Proofs.Ytbckbnmpeedodaa
