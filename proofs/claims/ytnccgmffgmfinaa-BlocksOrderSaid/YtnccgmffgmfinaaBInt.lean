/-
  slices.Index and slices.Contains over ints; what block sizes there are, how far they reach.
-/
import Derived.Test.YtnccgmffgmfinaaRows
import Derived.Test.YtnccgmffgmfinaaRegion
import Derived.BigQuiet
import Derived.Lib.Walk
import Derived.WalkSpells
import Derived.Outline
import Derived.IntWalk
namespace Go.Proofs.Ytnccgmffgmfinaa
open Go.RowKit

/-- a law's answer -/
def Yes (w : World) : Ending → World → Prop := fun e w' => e = .returned (.bool true) ∧ Keeps nowhere w w'

def RetIdx (x : Int) (xs : List Int) (w : World) : Ending → World → Prop := fun e w' => ∃ i : Int, e = .returned (.int .i64 i) ∧ (0 ≤ i ↔ x ∈ xs) ∧ w = w'

set_option maxHeartbeats 400000 in
theorem idx_int (v : Value) (g : Option Nat) (xs : List Int) (x : Int) (w : World) (hr : Rd w v g (xs.map (Value.int .i64))) (hb : xs.length ≤ 1000) :
    Calls Try.prog 69 #[v, .int .i64 x] w (RetIdx x xs w) := by
  obtain ⟨A, c, rfl, _⟩ := hr.form
  rw [List.length_map] at hr ⊢
  have Hr := Lib.hid hr
  clear hr
  go_enter Try.func69, Try.ntmps69
  go_wp2_with fail
  go_loopw [8] (fun i wr => w = wr ∧ ∃ k : Nat, i = .int .i64 k ∧ k ≤ xs.length ∧ x ∉ xs.take k) (fun i _ => xs.length - (intOf i).toNat)
  case atStart => exact ⟨rfl, 0, rfl, Nat.zero_le _, by simp⟩
  case round =>
    obtain ⟨rfl, k, rfl, hk, hn⟩ := hrel
    by_cases hlt : k < xs.length
    · obtain ⟨b, off, cap, hA, _, _, _, _, hc⟩ := Hr.out.plain (by rw [List.length_map]; omega)
      rw [List.length_map] at hA
      obtain ⟨rfl, _, rfl⟩ : A = some ⟨b, off, none⟩ ∧ _ ∧ c = cap := by injection hA with h1 h2 h3; exact ⟨h1, h2, h3⟩
      have ck := hc k (.int .i64 xs[k]) (by simp [hlt])
      have hi0 : (0 : Int) ≤ (k : Int) := by omega
      have hi1 : (k : Int) < xs.length := by omega
      clear hc hA
      obtain ⟨y, hy⟩ : ∃ y, y = xs[k] := ⟨_, rfl⟩
      rw [← hy] at ck
      by_cases he : x = y
      · subst he
        have hmem : x ∈ xs := by rw [hy]; exact List.getElem_mem hlt
        have Hmem := Lib.hid hmem
        clear hmem
        clear hn
        go_wp2_with fail
        go_ret
        exact ⟨k, rfl, ⟨fun _ => by simp, fun _ => hi0⟩, rfl⟩
      · have hne : (x == y) = false := by simpa using he
        have hn' : x ∉ xs.take (k + 1) := by
          rw [List.take_succ_eq_append_getElem hlt, List.mem_append, ← hy]
          simp
          exact ⟨hn, he⟩
        have Hn' := Lib.hid hn'
        clear hn'
        clear hn
        go_wp2_with fail
        go_roundw
        case rel => exact ⟨trivial, k + 1, by go_num, by omega, Hn'.out⟩
        case measure => simp [intOf]; omega
    · have hke : k = xs.length := by omega
      subst hke
      rw [List.take_length] at hn
      have Hn := Lib.hid hn
      clear hn
      go_wp2_with fail
      go_ret
      exact ⟨-1, rfl, ⟨fun h => by omega, fun h => absurd h Hn.out⟩, rfl⟩

theorem has_int (v : Value) (g : Option Nat) (xs : List Int) (x : Int) (w : World) (hr : Rd w v g (xs.map (Value.int .i64))) (hb : xs.length ≤ 1000) :
    Calls Try.prog 60 #[v, .int .i64 x] w fun e w' => e = .returned (.bool (decide (x ∈ xs))) ∧ w = w' := by
  obtain ⟨A, c, rfl, _⟩ := hr.form
  rw [List.length_map] at hr ⊢
  have Hr := Lib.hid hr
  clear hr
  go_enter Try.func60, Try.ntmps60
  go_wp2_with fail
  refine (idx_int _ _ _ _ _ Hr.out hb).mono ?_
  rintro e w1 ⟨i, rfl, hi, rfl⟩
  have hd : Hid (decide ((0 : Int) ≤ i) = decide (x ∈ xs)) := decide_eq_decide.2 hi
  clear hi
  go_wp2_with fail
  go_ret
  exact ⟨by rw [← hd.out]; rfl, rfl⟩

def sizes : List Int := [64, 128, 256, 512, 1024]
def goodB (b : Int) : Bool := decide (b ∈ sizes)
def mostB (b : Int) : Nat := if goodB b then (b * (8 + b / 4 + b / 4 * (b / 4))).toNat else 0

theorem right_any (b : Int) (w : World) : Calls Try.prog 42 #[.int .i64 b] w fun e w' => e = .returned (.bool (goodB b)) ∧ Keeps nowhere w w' := by
  have hk := (Keeps.refl nowhere w).alloc (.cells #[.int .i64 64, .int .i64 128, .int .i64 256, .int .i64 512, .int .i64 1024] 3)
  have hr : Rd (w.alloc (.cells #[.int .i64 64, .int .i64 128, .int .i64 256, .int .i64 512, .int .i64 1024] 3)) (.slice (some ⟨w.heap.size, 0, none⟩) 5 5) (some w.heap.size) (sizes.map (Value.int .i64)) :=
    Rd.full (heap_alloc_new w (.cells #[.int .i64 64, .int .i64 128, .int .i64 256, .int .i64 512, .int .i64 1024] 3)) (by simp [maxLen])
  have Hk := Lib.hid hk
  have Hr := Lib.hid hr
  clear hk hr
  go_enter Try.func42, Try.ntmps42
  go_wp2_with fail
  refine (has_int _ _ _ _ _ Hr.out (by decide)).mono ?_
  rintro e w1 ⟨rfl, rfl⟩
  generalize hB : decide (b ∈ sizes) = B
  go_wp2_with fail
  go_ret
  exact ⟨by rw [goodB, hB]; rfl, Hk.out⟩

def RetGood (b : Int) (w : World) : Ending → World → Prop := fun e w' => e = .returned (.bool (goodB b)) ∧ w = w'
theorem good_no {b : Int} (h : ¬ b = 64 ∧ ¬ b = 128 ∧ ¬ b = 256 ∧ ¬ b = 512 ∧ ¬ b = 1024) : goodB b = false := by
  unfold goodB sizes; simp; omega
theorem law_good (b : Int) (w : World) : Calls Try.prog 17 #[.int .i64 b] w (RetGood b w) := by
  go_enter Try.func17, Try.ntmps17
  go_wp2_with fail
  go_loopw [3] (fun i wr => w = wr ∧ ∃ n : Int, i = .int .i64 n ∧ (n = 64 ∨ (n = 128 ∧ ¬ b = 64) ∨ (n = 256 ∧ ¬ b = 64 ∧ ¬ b = 128) ∨ (n = 512 ∧ ¬ b = 64 ∧ ¬ b = 128 ∧ ¬ b = 256) ∨
    (n = 1024 ∧ ¬ b = 64 ∧ ¬ b = 128 ∧ ¬ b = 256 ∧ ¬ b = 512) ∨ (n = 2048 ∧ ¬ b = 64 ∧ ¬ b = 128 ∧ ¬ b = 256 ∧ ¬ b = 512 ∧ ¬ b = 1024))) (fun i _ => 2049 - (intOf i).toNat)
  case atStart => exact ⟨rfl, 64, rfl, .inl rfl⟩
  case round =>
    obtain ⟨rfl, n, rfl, h⟩ := hrel
    by_cases hb : b = n
    · subst hb
      rcases h with rfl | ⟨rfl, h⟩ | ⟨rfl, h⟩ | ⟨rfl, h⟩ | ⟨rfl, h⟩ | ⟨rfl, h⟩
      case inr.inr.inr.inr.inr =>
        have hg : goodB 2048 = false := good_no (by omega)
        have Hg := Lib.hid hg
        clear hg
        go_wp2_with fail
        go_ret
        exact ⟨by rw [Hg.out]; rfl, rfl⟩
      all_goals
        go_wp2_with fail
        go_ret
        exact ⟨rfl, rfl⟩
    · have hne : ¬ n = b := fun e => hb e.symm
      rcases h with rfl | ⟨rfl, h⟩ | ⟨rfl, h⟩ | ⟨rfl, h⟩ | ⟨rfl, h⟩ | ⟨rfl, h⟩
      case inr.inr.inr.inr.inr =>
        have hg : goodB b = false := good_no (by omega)
        have Hg := Lib.hid hg
        clear hg
        go_wp2_with fail
        go_ret
        exact ⟨by rw [Hg.out]; rfl, rfl⟩
      all_goals
        try have Hh := Lib.hid h
        have Hne := Lib.hid hb
        try clear h
        clear hb
        go_wp2_with fail
        go_roundw
        case rel => exact ⟨trivial, _, rfl, by have := Hne.out; first | omega | (have := Hh.out; omega)⟩
        case measure => simp [intOf]

theorem good_cases {b : Int} (h : goodB b = true) : b = 64 ∨ b = 128 ∨ b = 256 ∨ b = 512 ∨ b = 1024 := by
  unfold goodB sizes at h; simp at h; omega
theorem most_no {b : Int} (h : goodB b = false) : mostB b = 0 := by rw [mostB, if_neg (by rw [h]; simp)]

theorem most_any (b : Int) (w : World) : Calls Try.prog 15 #[.int .i64 b] w fun e w' => e = .returned (.int .u64 (mostB b)) ∧ Keeps nowhere w w' := by
  cases hg : goodB b with
  | false =>
    go_enter Try.func15, Try.ntmps15
    go_wp2_with fail
    refine (right_any _ _).mono ?_
    rintro e w1 ⟨rfl, hk1⟩
    rw [hg]
    have Hg := Lib.hid hg
    have Hk1 := Lib.hid hk1
    clear hg hk1
    go_wp2_with fail
    go_ret
    exact ⟨by rw [most_no Hg.out]; rfl, Hk1.out⟩
  | true =>
    rcases good_cases hg with rfl | rfl | rfl | rfl | rfl
    all_goals
      go_enter Try.func15, Try.ntmps15
      go_wp2_with fail
      refine (right_any _ _).mono ?_
      rintro e w1 ⟨rfl, hk1⟩
      rw [hg]
      have Hg := Lib.hid hg
      have Hk1 := Lib.hid hk1
      clear hg hk1
      go_wp2_with fail
      go_ret
      exact ⟨rfl, Hk1.out⟩

theorem law_most (b : Int) (w : World) : Calls Try.prog 16 #[.int .i64 b] w fun e w' => e = .returned (.int .u64 (mostB b)) ∧ w = w' := by
  cases hg : goodB b with
  | false =>
    go_enter Try.func16, Try.ntmps16
    go_wp2_with fail
    refine (law_good _ _).mono ?_
    rintro e w1 ⟨rfl, rfl⟩
    rw [hg]
    have Hg := Lib.hid hg
    clear hg
    go_wp2_with fail
    go_ret
    exact ⟨by rw [most_no Hg.out]; rfl, rfl⟩
  | true =>
    rcases good_cases hg with rfl | rfl | rfl | rfl | rfl
    all_goals
      go_enter Try.func16, Try.ntmps16
      go_wp2_with fail
      refine (law_good _ _).mono ?_
      rintro e w1 ⟨rfl, rfl⟩
      rw [hg]
      have Hg := Lib.hid hg
      clear hg
      go_wp2_with fail
      go_ret
      exact ⟨rfl, rfl⟩
end Go.Proofs.Ytnccgmffgmfinaa
