/-
  loggialaw9.known.
-/
import Derived.Test.YtbckbnmpeedodaaMap4
namespace Go.Proofs.Ytbckbnmpeedodaa
open Go.RowKit

theorem bitF_bytes {n : Nat} {f : Nat → Bool} (hoff : ∀ i, n ≤ i → f i = false) : bitF (bytesOf n f) = f := by
  funext i
  by_cases h : i / 8 < (n + 7) / 8
  · have hx : (bytesOf n f)[i / 8]? = some (UInt8.ofNat (byteN f (i / 8))) := by simp [bytesOf, h]
    have h1 := bitF_at hx
    rw [UInt8.toNat_ofNat', Nat.mod_eq_of_lt (show byteN f (i / 8) < 2 ^ 8 from byteN_lt f (i / 8)), byteN_bit f (i / 8) (i % 8) (Nat.mod_lt _ (by omega)), show 8 * (i / 8) + i % 8 = i by omega] at h1
    cases h2 : f i <;> cases h3 : bitF (bytesOf n f) i <;> rw [h2, h3] at h1 <;> first | rfl | (exact absurd h1 (by decide))
  · rw [hoff i (by omega)]
    exact bitF_far _ _ (by rw [bytesOf_len]; omega)
theorem form_bytes {n : Nat} {f : Nat → Bool} (hoff : ∀ i, n ≤ i → f i = false) : FormOk (bytesOf n f) n :=
  ⟨bytesOf_len n f, fun j hj => by rw [bitF_bytes hoff]; exact hoff j hj⟩
theorem run_pick {f f' : Nat → Bool} {n k i : Nat} {e : Ending} (h : RunPost f n k e f') (hi : IsRun f n k i) (hm : ∀ i', i' < i → ¬ IsRun f n k i') : e = .returned (.tuple #[.int .i64 i, .int .i64 0]) ∧ f' = fill f i k := by
  rcases h with ⟨j, hl, he, hf⟩ | ⟨hn, _⟩
  · obtain rfl : j = i := by
      rcases Nat.lt_trichotomy j i with h | h | h
      · exact absurd hl.1 (hm j h)
      · exact h
      · exact absurd hi (hl.2 i h)
    exact ⟨he, hf⟩
  · exact absurd hi (hn i)
theorem run_none {f f' : Nat → Bool} {n k : Nat} {e : Ending} (h : RunPost f n k e f') (hm : ∀ i, ¬ IsRun f n k i) : e = .returned (.tuple #[.int .i64 0, .int .i64 14]) ∧ f' = f := by
  rcases h with ⟨j, hl, he, hf⟩ | ⟨hn, he, hf⟩
  · exact absurd hl.1 (hm j)
  · exact ⟨he, hf⟩

def k0 : Nat → Bool := fun _ => false
def k1 : Nat → Bool := fill k0 0 1
def k2 : Nat → Bool := fill k1 1 3
def k3 : Nat → Bool := upd k2 0 false
def k4 : Nat → Bool := fill k3 4 2
theorem r1 : IsRun k0 10 1 0 := by unfold IsRun; decide
theorem r2 : IsRun k1 10 3 1 ∧ ∀ i, i < 1 → ¬ IsRun k1 10 3 i := by unfold IsRun; decide
theorem r4 : IsRun k3 10 2 4 ∧ ∀ i, i < 4 → ¬ IsRun k3 10 2 i := by unfold IsRun; decide
theorem r5 : k4 5 = true ∧ k4 0 = false ∧ cntF k4 10 = 5 ∧ hasM k2 0 = true ∧ setM 10 k2 0 false = k3 ∧ (10 + 7) / 8 = 2 ∧ hasM k4 5 = true ∧ hasM k4 0 = false := ⟨by decide, by decide, by decide, by decide, rfl, rfl, by decide, by decide⟩

def YesM (w : World) : Ending → World → Prop := fun e w' => e = .returned (.bool true) ∧ Keeps nowhere w w'
theorem keep2 {w w1 w' : World} {p g : Nat} (h : Keeps nowhere w w1) (hp : w.heap.size ≤ p) (hg : w.heap.size ≤ g) (k : Keeps (only2 p (some g)) w1 w') : Keeps nowhere w w' :=
  h.fresh2 k hp (fun b hb => by cases hb; exact hg)

set_option maxRecDepth 8000 in
set_option maxHeartbeats 2000000 in
theorem known9 (w : World) : Calls Try.prog 33 #[] w (YesM w) := by
  go_enter Try.func33, Try.ntmps33
  go_wp2_with fail
  refine (new_ok 10 _ (by omega) (by omega)).mono ?_
  rintro e w1 ⟨p, g, rfl, hp, hg, hm, hk⟩
  have Hp := Lib.hid hp
  have Hg := Lib.hid hg
  have Hm := Lib.hid hm
  have Hk := Lib.hid hk
  clear hp hg hm hk
  unfold mp
  go_wp2_with fail
  refine (take_any _ p g 10 _ Hm.out).mono ?_
  rintro e w2 ⟨f1, hr, hm1, hk1⟩
  obtain ⟨rfl, rfl⟩ := run_pick hr r1 (fun _ h => absurd h (by omega))
  have hk2 := keep2 Hk.out Hp.out Hg.out hk1
  clear hk1 hr
  have Hm1 := Lib.hid hm1
  have Hk2 := Lib.hid hk2
  clear hm1 hk2
  go_wp2_with fail
  refine (run_any _ p g 10 3 _ Hm1.out (by omega) (by omega)).mono ?_
  rintro e w3 ⟨f2, hr, hm2, hk1⟩
  obtain ⟨rfl, rfl⟩ := run_pick hr r2.1 r2.2
  have hk3 := keep2 Hk2.out Hp.out Hg.out hk1
  clear hk1 hr
  have Hm2 := Lib.hid hm2
  have Hk3 := Lib.hid hk3
  clear hm2 hk3
  go_wp2_with fail
  refine (clear_any _ p g 10 _ 0 Hm2.out).mono ?_
  rintro e w4 ⟨rfl, hm3, hk1⟩
  have hk4 := keep2 Hk3.out Hp.out Hg.out hk1
  clear hk1
  replace hm3 : MapAt w4 p g 10 k3 := by
    have h := hm3
    rw [show hasM (fill (fill (fun _ => false) 0 1) 1 3) 0 = true from r5.2.2.2.1] at h
    exact h
  rw [show hasM (fill (fill (fun _ => false) 0 1) 1 3) 0 = true from r5.2.2.2.1]
  have Hm3 := Lib.hid hm3
  have Hk4 := Lib.hid hk4
  clear hm3 hk4
  go_wp2_with fail
  refine (run_any _ p g 10 2 _ Hm3.out (by omega) (by omega)).mono ?_
  rintro e w5 ⟨f4, hr, hm4, hk1⟩
  obtain ⟨rfl, rfl⟩ := run_pick hr r4.1 r4.2
  have hk5 := keep2 Hk4.out Hp.out Hg.out hk1
  clear hk1 hr
  have Hm4 := Lib.hid hm4
  have Hk5 := Lib.hid hk5
  clear hm4 hk5
  go_wp2_with fail
  refine (new_bad 0 _ (.inl (by omega))).mono ?_
  rintro e w6 ⟨rfl, rfl⟩
  go_wp2_with fail
  refine (bytes_any _ p g 10 _ Hm4.out).mono ?_
  rintro e w7 ⟨vb, gb, rfl, hrb, hgb, hk6⟩
  have hm5 := Hm4.out.keep hk6 (fun h => h) (fun h => h)
  have hk7 := Hk5.out.more hk6
  clear hk6 hgb
  have Hrb := Lib.hid hrb
  have Hm5 := Lib.hid hm5
  have Hk7 := Lib.hid hk7
  clear hrb hm5 hk7
  go_wp2_with fail
  refine (load_any _ _ _ 10 _ Hrb.out (by omega) (by omega)).mono ?_
  rintro e w8 hl
  rcases hl with ⟨_, q, h, rfl, hq, hh, hx, hk8⟩ | ⟨hno, _⟩
  case inr => exact absurd (form_bytes Hm5.out.off) hno
  have hm6 := Hm5.out.keep hk8 (fun h => h) (fun h => h)
  have hk9 := Hk7.out.more hk8
  rw [bitF_bytes Hm5.out.off] at hx
  clear hk8 hq hh
  unfold mp
  have Hm6 := Lib.hid hm6
  have Hk9 := Lib.hid hk9
  have Hx := Lib.hid hx
  clear hm6 hk9 hx
  go_wp2_with fail
  refine (has_any _ p g 10 _ 5 Hm6.out).mono ?_
  rintro e w9 ⟨rfl, rfl⟩
  rw [show hasM (fill k3 4 2) 5 = true from r5.2.2.2.2.2.2.1]
  go_wp2_with fail
  refine (has_any _ p g 10 _ 0 Hm6.out).mono ?_
  rintro e w9 ⟨rfl, rfl⟩
  rw [show hasM (fill k3 4 2) 0 = false from r5.2.2.2.2.2.2.2]
  go_wp2_with fail
  refine (free_any _ p g 10 _ Hm6.out).mono ?_
  rintro e w9 ⟨rfl, rfl⟩
  rw [show cntF (fill k3 4 2) 10 = 5 from r5.2.2.1]
  go_wp2_with fail
  refine (free_any _ q h 10 _ Hx.out).mono ?_
  rintro e w9 ⟨rfl, rfl⟩
  rw [show cntF (fill k3 4 2) 10 = 5 from r5.2.2.1]
  go_wp2_with fail
  refine (bytes_any _ p g 10 _ Hm6.out).mono ?_
  rintro e w9 ⟨vc, gc, rfl, hrc, hgc, hk10⟩
  have hk11 := Hk9.out.more hk10
  obtain ⟨A, c, rfl, _⟩ := hrc.form
  rw [show ((bytesOf 10 (fill k3 4 2)).map bv).length = 2 by rw [List.length_map, bytesOf_len]]
  clear hk10 hgc hrc
  have Hk11 := Lib.hid hk11
  clear hk11
  go_wp2_with fail
  go_ret
  exact ⟨rfl, Hk11.out⟩
end Go.Proofs.Ytbckbnmpeedodaa
