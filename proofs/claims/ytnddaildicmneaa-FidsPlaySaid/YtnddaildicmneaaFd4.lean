/-
  fid: the statement FidsFull, walked.
-/
import Derived.Test.YtnddaildicmneaaFd3
namespace Go.Proofs.Ytnddaildicmneaa
open Go.RowKit Go.Maps

def pathF (i : Nat) : FidV := ⟨ByteArray.empty, i, false, 0, 0, 0⟩
def fullL : Nat → List (Nat × FidV)
  | 0 => []
  | i + 1 => (1000 - i, pathF i) :: fullL i
theorem full_len : ∀ i, (fullL i).length = i
  | 0 => rfl
  | i + 1 => by simp [fullL, full_len i]
theorem full_lt : ∀ i, i ≤ 1000 → ∀ p ∈ fullL i, 1000 - i < p.1
  | 0, _, p, hp => by simp [fullL] at hp
  | i + 1, hi, p, hp => by
    simp only [fullL, List.mem_cons] at hp
    rcases hp with rfl | hp
    · simp only; omega
    · have := full_lt i (by omega) p hp; omega
theorem look_none {α : Type} {l : List (Nat × α)} {x : Nat} (h : ∀ p ∈ l, p.1 ≠ x) : look l x = none := by
  unfold look
  rw [List.find?_eq_none.2 (fun p hp => by simpa using h p hp)]; rfl
theorem delM_none {α : Type} {l : List (Nat × α)} {x : Nat} (h : ∀ p ∈ l, p.1 ≠ x) : delM l x = l := by
  unfold delM
  exact List.filter_eq_self.2 (fun p hp => by simpa using h p hp)
theorem full_put {i : Nat} (h : i < 64) : putE (fullL i) (1000 - i) = 0 ∧ putL (fullL i) (1000 - i) (pathF i) = fullL (i + 1) := by
  have hn : ∀ p ∈ fullL i, p.1 ≠ 1000 - i := fun p hp => by have := full_lt i (by omega) p hp; omega
  have hE : putE (fullL i) (1000 - i) = 0 := by
    rw [putE, if_neg (by omega), look_none hn, if_neg (by simp), if_neg (by rw [full_len]; omega)]
  refine ⟨hE, ?_⟩
  rw [putL, if_pos hE, putM, delM_none hn]
  cases i with
  | zero => rfl
  | succ i =>
    have := full_lt (i + 1) (by omega) (1000 - i, pathF i) (by simp [fullL])
    simp only at this
    rw [show fullL (i + 1) = (1000 - i, pathF i) :: fullL i from rfl, insM, if_pos this]
    rfl
theorem full_over {i : Nat} (h : 64 ≤ i) (h2 : i < 900) : putE (fullL 64) (1000 - i) = 14 ∧ ∀ f, putL (fullL 64) (1000 - i) f = fullL 64 := by
  have hn : ∀ p ∈ fullL 64, p.1 ≠ 1000 - i := fun p hp => by have := full_lt 64 (by omega) p hp; omega
  have hE : putE (fullL 64) (1000 - i) = 14 := by rw [putE, if_neg (by omega), look_none hn, if_neg (by simp), if_pos (by rw [full_len]; exact Nat.le_refl _)]
  exact ⟨hE, fun f => by rw [putL, if_neg (by rw [hE]; decide)]⟩
theorem full_end : ∀ j : Fin 64, getE (fullL 64) (1000 - j.val) = 0 ∧ (getF (fullL 64) (1000 - j.val)).path = j.val ∧ (delM (fullL 64) (1000 - j.val)).length = 63 ∧ putE (delM (fullL 64) (1000 - j.val)) 5 = 0 ∧
    (putL (delM (fullL 64) (1000 - j.val)) 5 FidV.zero).length = 64 ∧ putE (putL (delM (fullL 64) (1000 - j.val)) 5 FidV.zero) (1000 - j.val) = 14 := by decide +kernel

set_option maxRecDepth 20000 in
set_option maxHeartbeats 8000000 in
theorem ffull_any (a b : Nat) (w : World) (ha : a < 256) (hb : b < 256) : Calls Try.prog 4 #[.int .u8 a, .int .u8 b] w (YesF w) := by
  obtain ⟨m, hm⟩ : ∃ m, m = a % 4 := ⟨_, rfl⟩
  have hm3 : m < 4 := by rw [hm]; exact Nat.mod_lt _ (by omega)
  have hw1 : (a : Int).tmod 4 = m := by rw [Int.tmod_eq_emod_of_nonneg (by omega), hm]; simp
  have hw2 : (a : Int) % 4 = m := by rw [hm]; simp
  have hw3 : IntKind.i64.wrap (m : Int) = m := IntWalk.i64_in _ (by omega)
  have hw4 : IntKind.i64.wrap (64 + (m : Int)) = 64 + m := IntWalk.i64_in _ (by omega)
  obtain ⟨N, hN⟩ : ∃ N, N = 64 := ⟨_, rfl⟩
  have Hm := Lib.hid hm
  have HN := Lib.hid hN
  clear hm hN
  go_enter Try.func4, Try.ntmps4
  go_wp2_with fail
  refine (known20 _).mono ?_
  rintro e w0 ⟨rfl, hk0⟩
  go_wp2_with fail
  refine (own_fnew w _ hk0).mono ?_
  rintro e w1 ⟨p, b', rfl, h1, -, -, -⟩
  clear hk0
  unfold fp
  have H1 := Lib.hid h1
  clear h1
  go_wp2_with fail
  go_loopw [6] (fun iv wr => ∃ i : Nat, iv = .int .i64 i ∧ i ≤ 64 + m ∧ FOwn w wr p b' (fullL (min i N))) (fun iv _ => 64 + m - (intOf iv).toNat)
  case atStart => exact ⟨0, rfl, Nat.zero_le _, H1.out⟩
  case round =>
    obtain ⟨i, rfl, hi, hq⟩ := hrel
    by_cases hlt : i < 64 + m
    · have hltI : (i : Int) < 64 + m := by omega
      have hi1 : IntKind.i64.wrap ((i : Int) + 1) = i + 1 := IntWalk.i64_in _ (by omega)
      obtain ⟨x, hx⟩ : ∃ x, x = 1000 - i := ⟨_, rfl⟩
      have v0 : (1000 - (i : Int)) = (x : Int) := by omega
      have v1 : IntKind.i64.wrap (1000 - (i : Int)) = (x : Int) := by rw [v0]; exact IntWalk.i64_in _ (by omega)
      have v2 : IntKind.u32.wrap (x : Int) = x := by rw [IntKind.wrap_u32]; omega
      have v3 : IntKind.u64.wrap (i : Int) = i := by rw [IntKind.wrap_u64]; omega
      have hP := own_fput x (pathF i) hq (by omega) (by rw [full_len]; have := HN.out; omega)
      unfold fp at hP
      rw [hx] at hP
      by_cases h64 : i < 64
      · rw [show min i N = i by have := HN.out; omega, (full_put h64).1, (full_put h64).2, ← hx] at hP
        have hI : (i : Int) < 64 := by omega
        simp only [pathF, FidV.v] at hP
        have HP := Lib.hid hP
        have Hx := Lib.hid hx
        have Hq := Lib.hid hq
        have V0 := Lib.hid v0
        clear hP hx hq v0
        go_wp2_with fail
        refine HP.out.mono ?_
        rintro e w2 ⟨rfl, h2, -⟩
        have H2 := Lib.hid h2
        clear h2
        go_wp2_with fail
        go_roundw
        case rel => exact ⟨i + 1, by simp, by omega, by rw [show min (i + 1) N = i + 1 by have := HN.out; omega]; exact H2.out⟩
        case measure => simp [intOf]; omega
      · rw [show min i N = N by have := HN.out; omega, HN.out, (full_over (by omega) (by omega)).1, (full_over (by omega) (by omega)).2, ← hx] at hP
        have hI : ¬ (i : Int) < 64 := by omega
        have hI2 : (64 : Int) ≤ i := by omega
        simp only [pathF, FidV.v] at hP
        have HP := Lib.hid hP
        have Hx := Lib.hid hx
        have Hq := Lib.hid hq
        have V0 := Lib.hid v0
        clear hP hx hq v0
        go_wp2_with fail
        refine HP.out.mono ?_
        rintro e w2 ⟨rfl, h2, -⟩
        have H2 := Lib.hid h2
        clear h2
        go_wp2_with fail
        go_roundw
        case rel => exact ⟨i + 1, by simp, by omega, by rw [show min (i + 1) N = 64 by have := HN.out; omega]; exact H2.out⟩
        case measure => simp [intOf]; omega
    · obtain rfl : i = 64 + m := by omega
      rw [show min (64 + m) N = 64 by have := HN.out; omega] at hq
      obtain ⟨j, hj⟩ : ∃ j, j = b % 64 := ⟨_, rfl⟩
      have hj64 : j < 64 := by rw [hj]; exact Nat.mod_lt _ (by omega)
      obtain ⟨e1, q1, n1, e2, n2, e3⟩ := full_end ⟨j, hj64⟩
      simp only at e1 q1 n1 e2 n2 e3
      obtain ⟨k, hk⟩ : ∃ k, k = 1000 - j := ⟨_, rfl⟩
      rw [← hk] at e1 q1 n1 e2 n2 e3
      obtain ⟨T, hT⟩ : ∃ T, T = fullL 64 := ⟨_, rfl⟩
      rw [← hT] at e1 q1 n1 e2 n2 e3 hq
      have hTl : T.length = 64 := by rw [hT, full_len]
      obtain ⟨D, hD⟩ : ∃ D, D = delM T k := ⟨_, rfl⟩
      rw [← hD] at n1 e2 n2 e3
      obtain ⟨D2, hD2⟩ : ∃ D2, D2 = putL D 5 FidV.zero := ⟨_, rfl⟩
      rw [← hD2] at n2 e3
      obtain ⟨D3, hD3⟩ : ∃ D3, D3 = putL D2 k FidV.zero := ⟨_, rfl⟩
      have hl3 : D3.length = 64 := by rw [hD3, putL, if_neg (by rw [e3]; decide)]; exact n2
      have v1 : (b : Int).tmod 64 = j := by rw [Int.tmod_eq_emod_of_nonneg (by omega), hj]; simp
      have v2 : (b : Int) % 64 = j := by rw [hj]; simp
      have v3 : IntKind.i64.wrap (j : Int) = j := IntWalk.i64_in _ (by omega)
      have v4 : IntKind.i64.wrap (1000 - (j : Int)) = (k : Int) := by rw [show (1000 : Int) - j = (k : Int) by omega]; exact IntWalk.i64_in _ (by omega)
      have v5 : IntKind.u32.wrap (k : Int) = k := by rw [IntKind.wrap_u32]; omega
      have v6 : IntKind.u64.wrap (j : Int) = j := by rw [IntKind.wrap_u64]; omega
      have hsum : (((64 + m : Nat)) : Int) = 64 + m := by simp
      have hk32 : k < 4294967296 := by omega
      have hA := own_fdrop k hq hk32 (by rw [hTl]; omega)
      rw [e1, ← hD] at hA
      obtain ⟨G, hG⟩ : ∃ G, G = getF T k := ⟨_, rfl⟩
      rw [← hG] at hA q1
      clear hG
      obtain ⟨g1, g2, g3, g4, g5, g6⟩ := G
      simp only at q1
      subst q1
      unfold fp at hA
      simp only [FidV.v] at hA
      clear e1 hq
      have hz : (64 : Int) = ((64 : Nat) : Int) := rfl
      have HA := Lib.hid hA
      have Hj := Lib.hid hj
      have Hk := Lib.hid hk
      have HT := Lib.hid hT
      have HTl := Lib.hid hTl
      have HD := Lib.hid hD
      have HD2 := Lib.hid hD2
      have HD3 := Lib.hid hD3
      have Hl3 := Lib.hid hl3
      have N1 := Lib.hid n1
      have E2 := Lib.hid e2
      have N2 := Lib.hid n2
      have E3 := Lib.hid e3
      have Hk32 := Lib.hid hk32
      have Hz := Lib.hid hz
      clear hA hj hk hT hTl hD hD2 hD3 hl3 n1 e2 n2 e3 hk32 hz
      go_wp2_with fail
      refine HA.out.mono ?_
      rintro e w2 ⟨rfl, h2, -⟩
      have hka := (Keeps.refl nowhere w2).alloc (.cells #[.string g1, .int .u64 g2, .bool g3, .int .u8 g4, .int .u64 g5, .int .i64 g6] 31)
      have hB := own_fput 5 FidV.zero (h2.same hka) (by decide) (by rw [N1.out]; decide)
      rw [E2.out, ← HD2.out] at hB
      unfold fp at hB
      simp only [FidV.v, FidV.zero] at hB
      have H2 := Lib.hid h2
      have Hka := Lib.hid hka
      have HB := Lib.hid hB
      clear h2 hka hB
      go_wp2_with fail
      refine HB.out.mono ?_
      rintro e w3 ⟨rfl, h3, -⟩
      have hC := own_fput k FidV.zero h3 Hk32.out (by rw [N2.out]; decide)
      rw [E3.out, ← HD3.out] at hC
      unfold fp at hC
      simp only [FidV.v, FidV.zero] at hC
      have H3 := Lib.hid h3
      have HC := Lib.hid hC
      clear h3 hC
      go_wp2_with fail
      refine HC.out.mono ?_
      rintro e w4 ⟨rfl, h4, -⟩
      have hE := own_fall h4 (by rw [Hl3.out]; decide)
      unfold fp at hE
      have H4 := Lib.hid h4
      have HE := Lib.hid hE
      clear h4 hE
      go_wp2_with fail
      refine HE.out.mono ?_
      rintro e w5 ⟨v5, gb5, rfl, hr5, h5, -⟩
      obtain ⟨A5, c5, rfl⟩ := rdU4_form hr5
      rw [List.length_map, Hl3.out]
      clear hr5
      have H5 := Lib.hid h5
      clear h5
      go_wp2_with fail
      go_ret
      exact ⟨rfl, H5.out.k⟩
end Go.Proofs.Ytnddaildicmneaa
