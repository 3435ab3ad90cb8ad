/-
  disk: the power goes at the armed write.
-/
import Derived.Test.YtnddaildicmneaaDk17
namespace Go.Proofs.Ytnddaildicmneaa
open Go.Proofs Go.RowKit Go.Sort Go.Maps

theorem dok_cut {D : DiskV} (h1 : D.size ≤ 1000000) (h2 : D.kept.length ≤ 1000000) (h3 : D.kept.length * D.size ≤ 100000000) (h4 : D.writes < 900000000) (keep : List Bool) : DOk (D.cut keep) := by
  have hl : (D.cut keep).kept.length = D.kept.length := settleN_len _ _ _ _
  exact ⟨by simp [DiskV.cut], h1, by rw [hl]; exact h2, by rw [hl]; exact h3, h4, (fun h => by cases h), by simp [DiskV.cut]⟩
theorem DOk.lessCut {D : DiskV} (ok : DOk D) (keep : List Bool) : DOk (D.less.cut keep) := dok_cut (D := D.less) ok.size ok.kept ok.all ok.writes keep
theorem DOk.cut {D : DiskV} (ok : DOk D) (keep : List Bool) : DOk (D.cut keep) := dok_cut ok.size ok.kept ok.all ok.writes keep
def armD (k : Nat) : Nat → DiskV
  | 0 => (freshD 4 64).arm (k : Int) []
  | j + 1 => ((armD k j).write 1 (zerosB 64)).2
theorem armD_low (k : Nat) (hk : k ≤ 30) : ∀ j, j < max k 1 → armD k j = ⟨64, List.replicate 4 (zerosB 64), List.replicate j (1, zerosB 64), false, true, (max k 1 : Nat) - j, [], j⟩
  | 0, _ => by simp [armD, freshD, DiskV.arm]; omega
  | j + 1, h => by
    have ih := armD_low k hk j (by omega)
    have hc : (0 : Int) ≤ 1 ∧ (1 : Int) < ((List.replicate 4 (zerosB 64)).length : Nat) ∧ (zerosB 64).length = 64 := by decide
    have hl : ¬ ((max k 1 : Nat) : Int) - j ≤ 1 := by omega
    rw [armD, ih]
    unfold DiskV.write
    simp only [Bool.false_eq_true, if_false, hc, and_self, if_true, hl]
    simp [DiskV.less, DiskV.wrote, List.replicate_succ']
    omega
theorem armD_e (k : Nat) (hk : k ≤ 30) (j : Nat) (h : j < max k 1) : ((armD k j).write 1 (zerosB 64)).1 = if j + 1 < max k 1 then 0 else 22 := by
  rw [armD_low k hk j h]
  have hc : (0 : Int) ≤ 1 ∧ (1 : Int) < ((List.replicate 4 (zerosB 64)).length : Nat) ∧ (zerosB 64).length = 64 := by decide
  unfold DiskV.write
  simp only [Bool.false_eq_true, if_false, hc, and_self, if_true]
  by_cases h2 : j + 1 < max k 1
  · rw [if_pos h2, if_neg (by omega)]
  · rw [if_neg h2, if_pos (by omega)]
/-- behind it: the power is off -/
structure Dead (K : Nat) (D : DiskV) : Prop where
  off : D.off = true
  writes : D.writes = K - 1
  ok : DOk D
theorem armD_high (k : Nat) (hk : k ≤ 30) : ∀ j, max k 1 ≤ j → Dead (max k 1) (armD k j)
  | 0, h => by omega
  | j + 1, h => by
    by_cases hj : max k 1 ≤ j
    · have ih := armD_high k hk j hj
      rw [armD]
      unfold DiskV.write
      rw [if_pos ih.off]
      exact ih
    · have hc : (0 : Int) ≤ 1 ∧ (1 : Int) < ((List.replicate 4 (zerosB 64)).length : Nat) ∧ (zerosB 64).length = 64 := by decide
      have hl : ((max k 1 : Nat) : Int) - j ≤ 1 := by omega
      rw [armD, armD_low k hk j (by omega)]
      unfold DiskV.write
      simp only [Bool.false_eq_true, if_false, hc, and_self, if_true, hl]
      exact ⟨rfl, by show j = _; omega, dok_cut (by show 64 ≤ _; omega) (by show (List.replicate 4 (zerosB 64)).length ≤ _; simp) (by show (List.replicate 4 (zerosB 64)).length * 64 ≤ _; simp) (by show j < _; omega) _⟩
theorem armD_ok (k : Nat) (hk : k ≤ 30) (j : Nat) : DOk (armD k j) := by
  by_cases h : j < max k 1
  · rw [armD_low k hk j h]
    exact ⟨by simp; omega, by simp, by simp, by simp, by simp; omega, fun _ => by simp; omega, by simp⟩
  · exact (armD_high k hk j (by omega)).ok
theorem armD_e2 (k : Nat) (hk : k ≤ 30) (j : Nat) : ((armD k j).write 1 (zerosB 64)).1 = if j + 1 < max k 1 then 0 else 22 := by
  by_cases h : j < max k 1
  · exact armD_e k hk j h
  · rw [if_neg (by omega)]
    unfold DiskV.write
    rw [if_pos (armD_high k hk j (by omega)).off]
set_option maxRecDepth 20000 in
set_option maxHeartbeats 4000000 in
theorem darms_any (n : Nat) (w : World) (hn : n < 256) : Calls Try.prog 6 #[.int .u8 n] w (YesD w) := by
  have hkn := known7 w
  obtain ⟨k, hk⟩ : ∃ k, k = n % 30 := ⟨_, rfl⟩
  have hk30 : k ≤ 30 := by omega
  have hrem : Int.tmod (n : Int) 30 = (k : Int) := by rw [hk, Int.tmod_eq_emod_of_nonneg (by omega)]; omega
  have hw8 : IntKind.u8.wrap (k : Int) = k := by rw [IntKind.wrap_u8]; omega
  have hw64 : IntKind.i64.wrap (k : Int) = k := IntWalk.i64_in _ (by omega)
  have hw3 : IntKind.i64.wrap ((k : Int) + 3) = k + 3 := IntWalk.i64_in _ (by omega)
  have Hkn := Lib.hid hkn
  have Hk := Lib.hid hk
  clear hkn hk
  go_enter Try.func6, Try.ntmps6
  go_wp2_with fail
  refine (Hkn.out).mono ?_
  rintro e w1 ⟨rfl, hk1⟩
  clear Hkn
  have hc := own_new 4 64 hk1 (by decide) (by decide) (by decide) (by decide)
  have Hk1 := Lib.hid hk1
  have Hc := Lib.hid hc
  clear hk1 hc
  go_wp2_with fail
  refine (Hc.out).mono ?_
  rintro e w2 ⟨d, F2, rfl, o2, -, -⟩
  clear Hc
  unfold dp
  have hc := own_arm (k : Int) _ _ [] o2 (RecT.Rd.nil recBo w2) (by decide)
  unfold dp at hc
  have O2 := Lib.hid o2
  have Hc := Lib.hid hc
  clear o2 hc
  go_wp2_with fail
  refine (Hc.out).mono ?_
  rintro e w3 ⟨rfl, F3, o3, -, -⟩
  clear Hc
  change DOwn w w3 d F3 (armD k 0) at o3
  have O3 := Lib.hid o3
  clear o3
  go_wp2_with fail
  go_loopw [6] (fun iv wr => ∃ (j : Nat) (F : Nat → Prop), iv = .int .i64 ((j : Int) + 1) ∧ j ≤ k + 2 ∧ DOwn w wr d F (armD k j)) (fun iv _ => k + 3 - (intOf iv).toNat)
  case atStart => exact ⟨0, F3, rfl, by omega, O3.out⟩
  case round =>
    obtain ⟨j, F, rfl, hj, o⟩ := hrel
    by_cases hlt : j < k + 2
    · have hltI : (j : Int) + 1 < k + 3 := by omega
      have hj1 : IntKind.i64.wrap ((j : Int) + 1 + 1) = ((j + 1 : Nat) : Int) + 1 := by rw [IntWalk.i64_in _ (by omega)]; omega
      have O := Lib.hid o
      clear o
      go_wp2_with (at_make; refine wpList_make_bytesB _ rfl _ _ rfl 64 64 rfl rfl rfl (by omega) ?_)
      intro w4 hx4 hk4
      have o4 := O.out.same hk4
      have hc := own_write 1 _ (zerosB 64) o4 (armD_ok k hk30 j) hx4
      rw [armD_e2 k hk30 j] at hc
      change Calls Try.prog _ _ _ (fun e w' => e = _ ∧ ∃ F', DOwn w w' d F' (armD k (j + 1)) ∧ _ ∧ _ ∧ _) at hc
      unfold dp at hc
      clear hx4 hk4
      by_cases hlow : j + 1 < max k 1
      · rw [if_pos hlow] at hc
        have hlowI : (j : Int) + 1 < k := by omega
        have O4 := Lib.hid o4
        have Hc := Lib.hid hc
        clear o4 hc
        go_wp2_with fail
        refine (Hc.out).mono ?_
        rintro e w5 ⟨rfl, F5, o5, -, -, -⟩
        clear Hc O4
        have O5 := Lib.hid o5
        clear o5
        go_wp2_with fail
        go_roundw
        case rel => exact ⟨j + 1, F5, by simp, by omega, O5.out⟩
        case measure => simp [intOf]; omega
      · rw [if_neg hlow] at hc
        have hlowI : ¬ (j : Int) + 1 < k := by omega
        have O4 := Lib.hid o4
        have Hc := Lib.hid hc
        clear o4 hc
        go_wp2_with fail
        refine (Hc.out).mono ?_
        rintro e w5 ⟨rfl, F5, o5, -, -, -⟩
        clear Hc O4
        have O5 := Lib.hid o5
        clear o5
        go_wp2_with fail
        go_roundw
        case rel => exact ⟨j + 1, F5, by simp, by omega, O5.out⟩
        case measure => simp [intOf]; omega
    · obtain rfl : j = k + 2 := by omega
      have hltI : ¬ ((k + 2 : Nat) : Int) + 1 < k + 3 := by omega
      have hD := armD_high k hk30 (k + 2) (by omega)
      have h1 := dk_off o.k
      have h2 := dk_writes o.k
      rw [hD.off] at h1
      rw [hD.writes] at h2
      unfold dp at h1 h2
      have hs1 : IntKind.i64.wrap ((k : Int) - 1) = (k : Int) - 1 := IntWalk.i64_in _ (by omega)
      clear hD
      have hkk := o.kp
      by_cases h0 : k = 0
      · subst h0
        clear o
        have H1 := Lib.hid h1
        have H2 := Lib.hid h2
        have Hkk := Lib.hid hkk
        clear h1 h2 hkk
        go_wp2_with fail
        go_wp2_with fail
        refine (H1.out).mono ?_
        rintro e w5 ⟨rfl, rfl⟩
        go_wp2_with fail
        refine (H2.out).mono ?_
        rintro e w5 ⟨rfl, rfl⟩
        go_wp2_with fail
        go_ret
        exact ⟨rfl, Hkk.out⟩
      · have hneg : ¬ (k : Int) - 1 < 0 := by omega
        rw [show ((max k 1 - 1 : Nat) : Int) = (k : Int) - 1 by omega] at h2
        clear o
        have H1 := Lib.hid h1
        have H2 := Lib.hid h2
        have Hkk := Lib.hid hkk
        clear h1 h2 hkk
        go_wp2_with fail
        go_wp2_with fail
        refine (H1.out).mono ?_
        rintro e w5 ⟨rfl, rfl⟩
        go_wp2_with fail
        refine (H2.out).mono ?_
        rintro e w5 ⟨rfl, rfl⟩
        go_wp2_with fail
        go_ret
        exact ⟨rfl, Hkk.out⟩
end Go.Proofs.Ytnddaildicmneaa
