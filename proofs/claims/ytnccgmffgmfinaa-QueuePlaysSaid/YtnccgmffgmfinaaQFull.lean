/-
  loggialaw25.QueueFull: the walk.
-/
import Derived.Test.YtnccgmffgmfinaaQ8
namespace Go.Proofs.Ytnccgmffgmfinaa
open Go.RowKit Go.Shelf

theorem readyTo_one {l : List J} (h : l ≠ []) : ∀ k, 1 ≤ k → 0 < (readyTo l k).length
  | 1, _ => by
    obtain ⟨x, l, rfl⟩ := List.exists_cons_of_ne_nil h
    have : rdy (x :: l) 0 = true := by unfold rdy; simp
    rw [readyTo_succ, if_pos this]
    simp
  | k + 2, _ => by
    have := readyTo_one h (k + 1) (by omega)
    rw [readyTo_succ, List.length_append]; omega
theorem ready_pos {l : List J} (h : l ≠ []) : 0 < (readyL l).length := readyTo_one h _ (List.length_pos_iff.2 h)
theorem pick_is {l : List J} (h : l ≠ []) (i : Int) : ∃ j, pickJ l i = some j ∧ j ∈ l := by
  have hp := ready_pos h
  have hm := Nat.mod_lt i.toNat hp
  refine ⟨_, List.getElem?_eq_getElem hm, ?_⟩
  exact readyTo_mem (List.getElem_mem hm)
theorem cut_len {l : List J} {j : J} (h : j ∈ l) : (cutL l j.c j.t).length = l.length - 1 := by
  rcases idxP_cases (isJ j.c j.t) l with ⟨_, hno⟩ | ⟨i, hi, _, hp, hn⟩
  · exact absurd (hno j h) (by simp [isJ])
  · rw [(cut_some hi hp hn).1]; exact List.length_eraseIdx_of_lt hi
theorem cut_sub {l : List J} {c : Int} {t : Nat} {x : J} (h : x ∈ cutL l c t) : x ∈ l := by
  unfold cutL at h
  split at h
  · exact List.mem_of_mem_eraseIdx h
  · exact h
theorem pick_val {l : List J} {i : Int} {j : J} (h : pickJ l i = some j) : pickV l i = .tuple #[j.v, .bool true] ∧ pickL l i = cutL l j.c j.t := by
  unfold pickV pickL; rw [h]; exact ⟨rfl, rfl⟩

def fullJ (k : Nat) : J := ⟨(k / 32 : Nat), k % 32, 0, false⟩
def full (i : Nat) : List J := (List.range i).map fullJ
theorem full_len (i : Nat) : (full i).length = i := by simp [full]
theorem full_succ (i : Nat) : full (i + 1) = full i ++ [fullJ i] := by simp [full, List.range_succ]
theorem full_put {i : Nat} (h : i < 512) : putE (full i) (fullJ i) = 0 ∧ putL (full i) (fullJ i) = full (i + 1) := by
  have hE : putE (full i) (fullJ i) = 0 := by
    have hno : (full i).any (isJ (fullJ i).c (fullJ i).t) = false := by
      rw [List.any_eq_false]
      intro x hx
      obtain ⟨k, hk, rfl⟩ := List.mem_map.1 hx
      have hk' : k < i := by simpa using hk
      unfold isJ fullJ
      simp
      omega
    rw [putE, if_neg (by rw [full_len]; omega), if_neg (by rw [hno]; simp)]
  exact ⟨hE, by rw [putL, if_pos hE, full_succ]⟩
theorem full_over (j : J) {N : Nat} (hN : N = 512) : putE (full N) j = 14 ∧ putL (full N) j = full N := by
  have hE : putE (full N) j = 14 := by rw [putE, if_pos (by rw [full_len]; omega)]
  exact ⟨hE, by rw [putL, if_neg (by rw [hE]; decide)]⟩

def lastJ : J := ⟨99, 0, 0, false⟩
theorem full_last {j : J} {N : Nat} (hN : N = 512) (h : j ∈ full N) : putE (cutL (full N) j.c j.t) lastJ = 0 ∧ (putL (cutL (full N) j.c j.t) lastJ).length = 512 ∧ (cutL (full N) j.c j.t).length = 511 := by
  have hl : (cutL (full N) j.c j.t).length = 511 := by rw [cut_len h, full_len, hN]
  have hE : putE (cutL (full N) j.c j.t) lastJ = 0 := by
    have hno : (cutL (full N) j.c j.t).any (isJ lastJ.c lastJ.t) = false := by
      rw [List.any_eq_false]
      intro x hx
      obtain ⟨k, hk, rfl⟩ := List.mem_map.1 (cut_sub hx)
      have hk' : k < N := by simpa using hk
      unfold isJ fullJ lastJ
      simp
      omega
    rw [putE, if_neg (by omega), if_neg (by rw [hno]; simp)]
  exact ⟨hE, by rw [putL, if_pos hE, List.length_append, hl]; rfl, hl⟩

set_option maxRecDepth 8000 in
set_option maxHeartbeats 2000000 in
theorem qfull_any (c : Nat) (w : World) (hc : c < 256) : Calls Try.prog 9 #[.int .u8 c] w (YesQ w) := by
  obtain ⟨m, hm⟩ : ∃ m, m = c % 3 := ⟨_, rfl⟩
  have hm3 : m < 3 := by rw [hm]; exact Nat.mod_lt _ (by omega)
  have hw1 : (c : Int).tmod 3 = m := by rw [Int.tmod_eq_emod_of_nonneg (by omega), hm]; simp
  have hw2 : (c : Int) % 3 = m := by rw [hm]; simp
  have hw3 : IntKind.i64.wrap (m : Int) = m := IntWalk.i64_in _ (by omega)
  have hw4 : IntKind.i64.wrap (512 + (m : Int)) = 512 + m := IntWalk.i64_in _ (by omega)
  obtain ⟨N, hN⟩ : ∃ N, N = 512 := ⟨_, rfl⟩
  have Hm := Lib.hid hm
  have HN := Lib.hid hN
  clear hm hN
  go_enter Try.func9, Try.ntmps9
  go_wp2_with fail
  refine (known25 _).mono ?_
  rintro e w0 ⟨rfl, hk0⟩
  go_wp2_with fail
  refine (own_new w _ hk0).mono ?_
  rintro e w1 ⟨p, rfl, h1⟩
  clear hk0
  unfold qp
  have H1 := Lib.hid h1
  clear h1
  go_wp2_with fail
  go_loopw [4] (fun iv wr => ∃ i : Nat, iv = .int .i64 i ∧ i ≤ 512 + m ∧ ∃ g, QOwn w wr p g (full (min i N))) (fun iv _ => 512 + m - (intOf iv).toNat)
  case atStart => exact ⟨0, rfl, Nat.zero_le _, none, H1.out⟩
  case round =>
    obtain ⟨i, rfl, hi, g, hq⟩ := hrel
    by_cases hlt : i < 512 + m
    · have hltI : (i : Int) < 512 + m := by omega
      have hi1 : IntKind.i64.wrap ((i : Int) + 1) = i + 1 := IntWalk.i64_in _ (by omega)
      obtain ⟨x, hx⟩ : ∃ x, x = i / 32 := ⟨_, rfl⟩
      obtain ⟨y, hy⟩ : ∃ y, y = i % 32 := ⟨_, rfl⟩
      have hj : fullJ i = ⟨(x : Int), y, 0, false⟩ := by rw [hx, hy]; rfl
      have v1 : (i : Int).tdiv 32 = x := by rw [Int.tdiv_eq_ediv_of_nonneg (by omega), hx]; simp
      have v2 : (i : Int) / 32 = x := by rw [hx]; simp
      have v3 : (i : Int).tmod 32 = y := by rw [Int.tmod_eq_emod_of_nonneg (by omega), hy]; simp
      have v4 : (i : Int) % 32 = y := by rw [hy]; simp
      have v5 : IntKind.i64.wrap (x : Int) = x := IntWalk.i64_in _ (by omega)
      have v6 : IntKind.u16.wrap (y : Int) = y := by rw [IntKind.wrap_u16]; omega
      have v7 : IntKind.i64.wrap (y : Int) = y := IntWalk.i64_in _ (by omega)
      have hP := own_put (fullJ i) hq (by rw [full_len]; have := HN.out; omega)
      have hv : (fullJ i).v = .agg #[.int .i64 x, .int .u16 y, .int .u16 0, .bool false] := by rw [hj]; rfl
      rw [hv] at hP
      unfold qp at hP
      clear hv
      by_cases h512 : i < 512
      · rw [show min i N = i by have := HN.out; omega, (full_put h512).1, (full_put h512).2] at hP
        have hI : (i : Int) < 512 := by omega
        have HP := Lib.hid hP
        have Hx := Lib.hid hx
        have Hy := Lib.hid hy
        have Hj := Lib.hid hj
        have Hq := Lib.hid hq
        clear hP hx hy hj hq
        go_wp2_with fail
        refine HP.out.mono ?_
        rintro e w2 ⟨rfl, g2, h2⟩
        have H2 := Lib.hid h2
        clear h2
        go_wp2_with fail
        go_roundw
        case rel => exact ⟨i + 1, by simp, by omega, g2, by rw [show min (i + 1) N = i + 1 by have := HN.out; omega]; exact H2.out⟩
        case measure => simp [intOf]; omega
      · rw [show min i N = N by have := HN.out; omega, (full_over _ HN.out).1, (full_over _ HN.out).2] at hP
        have hI : ¬ (i : Int) < 512 := by omega
        have hI2 : (512 : Int) ≤ i := by omega
        have HP := Lib.hid hP
        have Hx := Lib.hid hx
        have Hy := Lib.hid hy
        have Hj := Lib.hid hj
        have Hq := Lib.hid hq
        clear hP hx hy hj hq
        go_wp2_with fail
        refine HP.out.mono ?_
        rintro e w2 ⟨rfl, g2, h2⟩
        have H2 := Lib.hid h2
        clear h2
        go_wp2_with fail
        go_roundw
        case rel => exact ⟨i + 1, by simp, by omega, g2, by rw [show min (i + 1) N = N by have := HN.out; omega]; exact H2.out⟩
        case measure => simp [intOf]; omega
    · obtain rfl : i = 512 + m := by omega
      rw [show min (512 + m) N = N by have := HN.out; omega] at hq
      obtain ⟨j, hj, hjm⟩ := pick_is (l := full N) (by rw [← List.length_pos_iff, full_len]; have := HN.out; omega) 3
      obtain ⟨hpv, hpl⟩ := pick_val hj
      obtain ⟨hE, hl1, hl2⟩ := full_last HN.out hjm
      have hP := own_pick 3 hq (by rw [full_len]; have := HN.out; omega) (by omega)
      rw [hpv, hpl] at hP
      unfold qp J.v at hP
      have hsum : (((512 + m : Nat)) : Int) = 512 + m := by simp
      clear hpv hpl hj hjm hq
      have HP := Lib.hid hP
      have HE := Lib.hid hE
      have Hl1 := Lib.hid hl1
      have Hl2 := Lib.hid hl2
      clear hP hE hl1 hl2
      go_wp2_with fail
      refine HP.out.mono ?_
      rintro e w2 ⟨rfl, h2, -⟩
      have h3 := h2.same ((Keeps.refl nowhere w2).alloc (.cells #[.int .i64 j.c, .int .u16 j.t, .int .u16 j.o, .bool j.s] 45))
      have hQ := own_put lastJ h3 (by rw [Hl2.out]; omega)
      rw [HE.out, show lastJ.v = .agg #[.int .i64 99, .int .u16 0, .int .u16 0, .bool false] from rfl] at hQ
      unfold qp at hQ
      clear h2 h3
      have HQ := Lib.hid hQ
      clear hQ
      go_wp2_with fail
      refine HQ.out.mono ?_
      rintro e w3 ⟨rfl, g3, h3⟩
      have H3 := Lib.hid h3
      clear h3
      go_wp2_with fail
      refine (own_len H3.out).mono ?_
      rintro e w4 ⟨rfl, rfl⟩
      rw [Hl1.out]
      go_wp2_with fail
      go_ret
      exact ⟨rfl, H3.out.k⟩
end Go.Proofs.Ytnccgmffgmfinaa
