/-
  loggialaw9.MapBytes: the walk.
-/
import Derived.Test.YtbckbnmpeedodaaKnown9
import Derived.Test.YtbckbnmpeedodaaStr
namespace Go.Proofs.Ytbckbnmpeedodaa
open Go.RowKit

theorem small_of_bits {x m : Nat} (hx : x < 256) (hm : 1 ≤ m) (hm8 : m < 8) (h : ∀ k, m ≤ k → k < 8 → x / 2 ^ k % 2 = 0) : x / 2 ^ m = 0 := by
  have h1 := h 1; have h2 := h 2; have h3 := h 3; have h4 := h 4; have h5 := h 5; have h6 := h 6; have h7 := h 7
  rcases (by omega : m = 1 ∨ m = 2 ∨ m = 3 ∨ m = 4 ∨ m = 5 ∨ m = 6 ∨ m = 7) with rfl | rfl | rfl | rfl | rfl | rfl | rfl <;> simp at h1 h2 h3 h4 h5 h6 h7 ⊢ <;> omega
/-- the marks behind the last place, seen in the last byte alone -/
theorem form_last {B : List UInt8} {n : Nat} (h1 : 1 ≤ n) (hl : B.length = (n + 7) / 8) {x : UInt8} (hx : B[B.length - 1]? = some x) : FormOk B n ↔ (n % 8 = 0 ∨ x.toNat / 2 ^ (n % 8) = 0) := by
  constructor
  · rintro ⟨_, h⟩
    by_cases hm : n % 8 = 0
    · exact .inl hm
    · refine .inr (small_of_bits x.toNat_lt (by omega) (Nat.mod_lt _ (by omega)) fun k hk hk8 => ?_)
      have hj := h (8 * (n / 8) + k) (by omega)
      have hi : (8 * (n / 8) + k) / 8 = B.length - 1 := by omega
      have := bitF_at (i := 8 * (n / 8) + k) (by rw [hi]; exact hx)
      rw [show (8 * (n / 8) + k) % 8 = k by omega, hj] at this
      exact this
  · intro h
    refine ⟨hl, fun j hj => ?_⟩
    by_cases hf : 8 * B.length ≤ j
    · exact bitF_far B j hf
    · rcases h with h | h
      · omega
      · have hi : j / 8 = B.length - 1 := by omega
        have hb := bitF_at (i := j) (by rw [hi]; exact hx)
        by_cases hm : n % 8 = 0
        · omega
        have hp : 2 ^ (n % 8) ≤ 2 ^ (j % 8) := Nat.pow_le_pow_right (by omega) (by omega)
        have h0 : x.toNat < 2 ^ (n % 8) := by
          rcases Nat.div_eq_zero_iff.1 h with h | h
          · exact absurd h (Nat.pos_iff_ne_zero.1 (Nat.two_pow_pos _))
          · exact h
        rw [Nat.div_eq_of_lt (by omega)] at hb
        cases hj : bitF B j
        · rfl
        · rw [hj] at hb; simp at hb
theorem bytes_bitF {B : List UInt8} {n : Nat} (h : FormOk B n) : bytesOf n (bitF B) = B := by
  apply List.ext_getElem?
  intro j
  by_cases hj : j < (n + 7) / 8
  · obtain ⟨x, hx⟩ : ∃ x, B[j]? = some x := ⟨B[j]'(by rw [h.1]; exact hj), List.getElem?_eq_getElem _⟩
    have hb : ∀ k, k < 8 → x.toNat / 2 ^ k % 2 = (bitF B (8 * j + k)).toNat := fun k hk => by
      have := bitF_at (i := 8 * j + k) (x := x) (by rw [show (8 * j + k) / 8 = j by omega]; exact hx)
      rwa [show (8 * j + k) % 8 = k by omega] at this
    have hN : byteN (bitF B) j = x.toNat := by
      have h0 := hb 0 (by omega); have h1 := hb 1 (by omega); have h2 := hb 2 (by omega); have h3 := hb 3 (by omega); have h4 := hb 4 (by omega); have h5 := hb 5 (by omega); have h6 := hb 6 (by omega); have h7 := hb 7 (by omega)
      have := x.toNat_lt
      simp only [Nat.add_zero] at h0
      unfold byteN
      rw [← h0, ← h1, ← h2, ← h3, ← h4, ← h5, ← h6, ← h7]
      omega
    rw [hx]
    simp [bytesOf, hj, hN]
  · rw [List.getElem?_eq_none (by simp [bytesOf_len]; omega), List.getElem?_eq_none (by rw [h.1]; omega)]

theorem mbytes_long (B : Option Addr) (l c : Nat) (n : Int) (w : World) (hl : 1000 < l) (hm : l ≤ 9223372036854775807) : Calls Try.prog 8 #[.slice B l c, .int .i64 n] w (YesM w) := by
  have h2' : (1000 : Int) < l := by omega
  go_enter Try.func8, Try.ntmps8
  go_wp2_with fail
  refine (known9 _).mono ?_
  rintro e w0 ⟨rfl, hk0⟩
  have Hk0 := Lib.hid hk0
  clear hk0
  go_wp2_with fail
  go_ret
  exact ⟨rfl, Hk0.out⟩

theorem mbytes_arg (B : Option Addr) (l c : Nat) (n : Int) (w : World) (hl : l ≤ 1000) (h : n < 1 ∨ (¬ n < 1 ∧ n > 65536)) : Calls Try.prog 8 #[.slice B l c, .int .i64 n] w (YesM w) := by
  have h2' : ¬ (1000 : Int) < l := by omega
  have hL := load_bad (.slice B l c) n
  have hL := fun w => hL w h
  have HL := Lib.hid hL
  clear hL
  rcases h with h | ⟨h, h'⟩
  all_goals
    go_enter Try.func8, Try.ntmps8
    go_wp2_with fail
    refine (known9 _).mono ?_
    rintro e w0 ⟨rfl, hk0⟩
    have Hk0 := Lib.hid hk0
    clear hk0
    go_wp2_with fail
    refine (HL.out _).mono ?_
    rintro e w1 ⟨rfl, rfl⟩
    go_wp2_with fail
    go_ret
    exact ⟨rfl, Hk0.out⟩

theorem mbytes_len (v : Value) (gb : Option Nat) (B : List UInt8) (n : Nat) (w : World) (hr : Rd w v gb (B.map bv)) (hl : B.length ≤ 1000) (h1 : 1 ≤ n) (h2 : n ≤ 65536) (hno : ¬ B.length = (n + 7) / 8) :
    Calls Try.prog 8 #[v, .int .i64 n] w (YesM w) := by
  have hF : ¬ FormOk B n := fun h => hno h.1
  have hrk := hr
  obtain ⟨A, c, rfl, hlc, hcm⟩ := hr.form
  rw [List.length_map] at *
  clear hr
  have hne2 : ((B.length : Int) != ((n : Int) + 7) / 8) = true := by simp; omega
  have hw7 : IntKind.i64.wrap ((n : Int) + 7) = (n : Int) + 7 := IntWalk.i64_in _ (by omega)
  have h2' : ¬ (1000 : Int) < B.length := by omega
  have HF := Lib.hid hF
  have Hrk := Lib.hid hrk
  clear hF hrk
  go_enter Try.func8, Try.ntmps8
  go_wp2_with fail
  refine (known9 _).mono ?_
  rintro e w0 ⟨rfl, hk0⟩
  have hr1 := Hrk.out.keep hk0 (fun _ _ h => h)
  have Hk0 := Lib.hid hk0
  have Hr1 := Lib.hid hr1
  clear hk0 hr1
  go_wp2_with fail
  refine (load_any _ _ _ n _ Hr1.out h1 h2).mono ?_
  rintro e w1 hl1
  rcases hl1 with ⟨hf, _⟩ | ⟨_, rfl, hk1⟩
  case inl => exact absurd hf HF.out
  have hk2 := Hk0.out.more hk1
  clear hk1
  have Hk2 := Lib.hid hk2
  clear hk2
  go_wp2_with fail
  go_ret
  exact ⟨rfl, Hk2.out⟩

theorem mbytes_last (v : Value) (gb : Option Nat) (B : List UInt8) (n : Nat) (w : World) (hr : Rd w v gb (B.map bv)) (hl : B.length ≤ 1000) (h1 : 1 ≤ n) (h2 : n ≤ 65536) (he : B.length = (n + 7) / 8) (hF : ¬ FormOk B n) :
    Calls Try.prog 8 #[v, .int .i64 n] w (YesM w) := by
  have hpos : 0 < (B.map bv).length := by rw [List.length_map]; omega
  have hrk := hr
  obtain ⟨b, off, c, rfl, rfl, hbw, hlc, hcm, hcell⟩ := hr.plain hpos
  rw [List.length_map] at *
  clear hr
  obtain ⟨x, hx⟩ : ∃ x, B[B.length - 1]? = some x := ⟨B[B.length - 1]'(by omega), List.getElem?_eq_getElem _⟩
  have hc := hcell (B.length - 1) (bv x) (by simp [hx])
  unfold bv at hc
  have hfl := form_last h1 he hx
  have hm0 : ¬ n % 8 = 0 := fun h => hF (hfl.2 (.inl h))
  have hx0 : ¬ x.toNat / 2 ^ (n % 8) = 0 := fun h => hF (hfl.2 (.inr h))
  have hx8 := x.toNat_lt
  have hm8 : n % 8 < 8 := Nat.mod_lt _ (by omega)
  have hq1 : (n : Int) % 8 = ((n % 8 : Nat) : Int) := by simp
  have hq2 : (n : Int).tmod 8 = ((n % 8 : Nat) : Int) := by rw [Int.tmod_eq_emod_of_nonneg (by omega)]; simp
  generalize n % 8 = m at *
  generalize x.toNat = X at *
  have hx0' : ((X : Int) / 2 ^ m != 0) = true := by
    rw [show (X : Int) / 2 ^ m = ((X / 2 ^ m : Nat) : Int) by simp]; simp only [bne_iff_ne, ne_eq]; omega
  have hm1 : (0 : Int) < m := by omega
  have hw8 : IntKind.u64.wrap (m : Int) = m := by rw [IntKind.wrap_u64]; omega
  have hlt : X < 256 := hx8
  obtain ⟨L, hL⟩ : ∃ L, L = B.length := ⟨_, rfl⟩
  rw [← hL] at hc hl hpos hlc ⊢
  have hne2 : ((L : Int) != ((n : Int) + 7) / 8) = false := by rw [← hL] at he; simp; omega
  have hw7 : IntKind.i64.wrap ((n : Int) + 7) = (n : Int) + 7 := IntWalk.i64_in _ (by omega)
  have hwL : IntKind.i64.wrap ((L : Int) - 1) = L - 1 := IntWalk.i64_in _ (by omega)
  have hL1 : ((L : Int) - 1).toNat = L - 1 := by omega
  have hL2 : (0 : Int) ≤ L - 1 := by omega
  have hL3 : (L : Int) - 1 < L := by omega
  have h2' : ¬ (1000 : Int) < L := by omega
  rw [← hL] at hrk
  have HF := Lib.hid hF
  have Hrk := Lib.hid hrk
  have Hcell := Lib.hid hcell
  have HL := Lib.hid hL
  have He := Lib.hid he
  have Hx := Lib.hid hx
  have Hfl := Lib.hid hfl
  have Hx0 := Lib.hid hx0
  have Hm0 := Lib.hid hm0
  clear hF hrk hcell hL he hx hfl hx0 hm0
  go_enter Try.func8, Try.ntmps8
  go_wp2_with fail
  refine (known9 _).mono ?_
  rintro e w0 ⟨rfl, hk0⟩
  have hr1 := Hrk.out.keep hk0 (fun _ _ h => h)
  have Hk0 := Lib.hid hk0
  have Hr1 := Lib.hid hr1
  clear hk0 hr1
  go_wp2_with fail
  refine (load_any _ _ _ n _ Hr1.out h1 h2).mono ?_
  rintro e w1 hl1
  rcases hl1 with ⟨hf, _⟩ | ⟨_, rfl, hk1⟩
  case inl => exact absurd hf HF.out
  have hk2 := Hk0.out.more hk1
  have hc2 := (hk2.cell (p := ⟨b, off + (L - 1), none⟩) hbw (fun h => h)).trans hc
  clear hk1 hc
  have Hk2 := Lib.hid hk2
  clear hk2
  go_wp2_with fail
  go_ret
  exact ⟨rfl, Hk2.out⟩
end Go.Proofs.Ytbckbnmpeedodaa
