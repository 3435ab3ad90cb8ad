/-
  geom: block, right, upto.
-/
import Derived.Test.YtblmbchjafffbaaI7
import Derived.Test.YtblmbchjafffbaaRegion
import Derived.BigQuiet
import Derived.Lib.Walk
import Derived.WalkSpells
import Derived.Outline
import Derived.IntWalk
namespace Go.Proofs.Ytblmbchjafffbaa
open Go.RowKit

def RetIdx (x : Int) (xs : List Int) (w : World) : Ending → World → Prop := fun e w' => ∃ i : Int, e = .returned (.int .i64 i) ∧ (0 ≤ i ↔ x ∈ xs) ∧ w = w'

set_option maxHeartbeats 400000 in
theorem idx_int (v : Value) (g : Option Nat) (xs : List Int) (x : Int) (w : World) (hr : Rd w v g (xs.map (Value.int .i64))) (hb : xs.length ≤ 1000) :
    Calls Try.prog 66 #[v, .int .i64 x] w (RetIdx x xs w) := by
  obtain ⟨A, c, rfl, _⟩ := hr.form
  rw [List.length_map] at hr ⊢
  have Hr := Lib.hid hr
  clear hr
  go_enter Try.func66, Try.ntmps66
  go_wp2_with fail
  go_loopw [8] (fun i wr => w = wr ∧ ∃ k : Nat, i = .int .i64 k ∧ k ≤ xs.length ∧ x ∉ xs.take k) (fun i _ => xs.length - (intOf i).toNat)
  case atStart => exact ⟨rfl, 0, rfl, Nat.zero_le _, by simp⟩
  case round =>
    obtain ⟨rfl, k, rfl, hk, hn⟩ := hrel
    by_cases hlt : k < xs.length
    · obtain ⟨b, off, cap, hA, _, _, _, _, hc⟩ := Hr.out.plain (by rw [List.length_map]; omega)
      rw [List.length_map] at hA
      obtain ⟨rfl, _, rfl⟩ : A = some ⟨b, off, none⟩ ∧ _ ∧ c = cap := by injection hA with h1 h2 h3; exact ⟨h1, h2, h3⟩
      have ck := hc k (.int .i64 xs[k]) (by simp [hlt])
      have hi0 : (0 : Int) ≤ (k : Int) := by omega
      have hi1 : (k : Int) < xs.length := by omega
      clear hc hA
      obtain ⟨y, hy⟩ : ∃ y, y = xs[k] := ⟨_, rfl⟩
      rw [← hy] at ck
      by_cases he : x = y
      · subst he
        have hmem : x ∈ xs := by rw [hy]; exact List.getElem_mem hlt
        have Hmem := Lib.hid hmem
        clear hmem
        clear hn
        go_wp2_with fail
        go_ret
        exact ⟨k, rfl, ⟨fun _ => by simp, fun _ => hi0⟩, rfl⟩
      · have hne : (x == y) = false := by simpa using he
        have hn' : x ∉ xs.take (k + 1) := by
          rw [List.take_succ_eq_append_getElem hlt, List.mem_append, ← hy]
          simp
          exact ⟨hn, he⟩
        have Hn' := Lib.hid hn'
        clear hn'
        clear hn
        go_wp2_with fail
        go_roundw
        case rel => exact ⟨trivial, k + 1, by go_num, by omega, Hn'.out⟩
        case measure => simp [intOf]; omega
    · have hke : k = xs.length := by omega
      subst hke
      rw [List.take_length] at hn
      have Hn := Lib.hid hn
      clear hn
      go_wp2_with fail
      go_ret
      exact ⟨-1, rfl, ⟨fun h => by omega, fun h => absurd h Hn.out⟩, rfl⟩

theorem has_int (v : Value) (g : Option Nat) (xs : List Int) (x : Int) (w : World) (hr : Rd w v g (xs.map (Value.int .i64))) (hb : xs.length ≤ 1000) :
    Calls Try.prog 65 #[v, .int .i64 x] w fun e w' => e = .returned (.bool (decide (x ∈ xs))) ∧ w = w' := by
  obtain ⟨A, c, rfl, _⟩ := hr.form
  rw [List.length_map] at hr ⊢
  have Hr := Lib.hid hr
  clear hr
  go_enter Try.func65, Try.ntmps65
  go_wp2_with fail
  refine (idx_int _ _ _ _ _ Hr.out hb).mono ?_
  rintro e w1 ⟨i, rfl, hi, rfl⟩
  have hd : Hid (decide ((0 : Int) ≤ i) = decide (x ∈ xs)) := decide_eq_decide.2 hi
  clear hi
  go_wp2_with fail
  go_ret
  exact ⟨by rw [← hd.out]; rfl, rfl⟩


/-- A geometry. -/
structure Geo where
  b : Int
  n : Int
  m : Int
def Geo.cells (g : Geo) : Array Value := #[.int .i64 g.b, .int .i64 g.n, .int .i64 g.m]
def Geo.val (g : Geo) : Value := .agg #[.int .i64 g.b, .int .i64 g.n, .int .i64 g.m]
def gsizes : List Int := [64, 128, 256, 512, 1024]
def Geo.ok (g : Geo) : Prop := g.b ∈ gsizes ∧ 8 ≤ g.n ∧ g.n ≤ 65536 ∧ 1 ≤ g.m ∧ g.m ≤ 4096
instance (g : Geo) : Decidable g.ok := inferInstanceAs (Decidable (_ ∧ _ ∧ _ ∧ _ ∧ _))

theorem gblock (b : Int) (w : World) : Calls Try.prog 61 #[.int .i64 b] w fun e w' => e = .returned (.bool (decide (b ∈ gsizes))) ∧ Keeps nowhere w w' := by
  have hk := (Keeps.refl nowhere w).alloc (.cells #[.int .i64 64, .int .i64 128, .int .i64 256, .int .i64 512, .int .i64 1024] 3)
  have hr : Rd (w.alloc (.cells #[.int .i64 64, .int .i64 128, .int .i64 256, .int .i64 512, .int .i64 1024] 3)) (.slice (some ⟨w.heap.size, 0, none⟩) 5 5) (some w.heap.size) (gsizes.map (Value.int .i64)) :=
    Rd.full (heap_alloc_new w (.cells #[.int .i64 64, .int .i64 128, .int .i64 256, .int .i64 512, .int .i64 1024] 3)) (by simp [maxLen])
  have Hk := Lib.hid hk
  have Hr := Lib.hid hr
  clear hk hr
  go_enter Try.func61, Try.ntmps61
  go_wp2_with fail
  refine (has_int _ _ _ _ _ Hr.out (by decide)).mono ?_
  rintro e w1 ⟨rfl, rfl⟩
  generalize hB : decide (b ∈ gsizes) = B
  go_wp2_with fail
  go_ret
  exact ⟨by rw [hB]; rfl, Hk.out⟩

set_option maxHeartbeats 400000 in
theorem gupto (n s : Int) (hn : 0 ≤ n) (hn2 : n ≤ 1048576) (hs : 1 ≤ s) (hs2 : s ≤ 1048576) (w : World) : Calls Try.prog 55 #[.int .i64 n, .int .i64 s] w fun e w' => e = .returned (.int .i64 ((n + s - 1) / s)) ∧ w = w' := by
  have hb0 : ¬ s = 0 := by omega
  have hw1 : IntKind.i64.wrap (n + s) = n + s := IntWalk.i64_in _ (by omega)
  have hw2 : IntKind.i64.wrap (n + s - 1) = n + s - 1 := IntWalk.i64_in _ (by omega)
  have hq0 : 0 ≤ (n + s - 1) / s := Int.ediv_nonneg (by omega) (by omega)
  have hq1 : (n + s - 1) / s ≤ n + s - 1 := Int.ediv_le_self _ (by omega)
  have htd : (n + s - 1).tdiv s = (n + s - 1) / s := Int.tdiv_eq_ediv_of_nonneg (by omega)
  have hw3 : IntKind.i64.wrap ((n + s - 1) / s) = (n + s - 1) / s := IntWalk.i64_in _ (by omega)
  obtain ⟨q, hq⟩ : ∃ q, q = (n + s - 1) / s := ⟨_, rfl⟩
  rw [← hq] at htd hw3 ⊢
  have Hq := Lib.hid hq
  have Hq0 := Lib.hid hq0
  have Hq1 := Lib.hid hq1
  clear hq hq0 hq1
  go_enter Try.func55, Try.ntmps55
  go_wp2
  go_ret
  exact ⟨rfl, rfl⟩

set_option maxHeartbeats 1600000 in
theorem gright (g : Geo) (w : World) : Calls Try.prog 52 #[g.val] w fun e w' => e = .returned (.bool (decide g.ok)) ∧ Keeps nowhere w w' := by
  have hk0 := (Keeps.refl nowhere w).alloc (.cells #[.int .i64 g.b, .int .i64 g.n, .int .i64 g.m] 60)
  have hb0 := Blk.new w 60 #[.int .i64 g.b, .int .i64 g.n, .int .i64 g.m]
  obtain ⟨r, hr⟩ : ∃ r, r = decide g.ok := ⟨_, rfl⟩
  rw [← hr]
  unfold Geo.val
  have Hk0 := Lib.hid hk0
  have Hb0 := Lib.hid hb0
  have Hr := Lib.hid hr
  clear hk0 hb0 hr
  go_enter Try.func52, Try.ntmps52
  go_wp2_with fail
  refine (gblock g.b _).mono ?_
  rintro e w1 ⟨rfl, hk1⟩
  have hb1 := Hb0.out.keep hk1 (fun h => h)
  have c0 := hb1.cell 0
  have c1 := hb1.cell 1
  have c2 := hb1.cell 2
  simp at c0 c1 c2
  have hkw1 := Hk0.out.more hk1
  have Hb1 := Lib.hid hb1
  have Hk1 := Lib.hid hk1
  have Hkw1 := Lib.hid hkw1
  clear hb1 hk1 hkw1
  by_cases h1 : g.b ∈ gsizes
  · have hd1 : decide (g.b ∈ gsizes) = true := decide_eq_true h1
    rw [hd1]
    by_cases h2 : g.n ≥ 8
    · by_cases h3 : g.n ≤ 65536
      · by_cases h4 : g.m ≥ 1
        · by_cases h5 : g.m ≤ 4096
          · have hr' : r = true := by rw [Hr.out]; exact decide_eq_true ⟨h1, h2, h3, h4, h5⟩
            subst hr'
            clear h1 hd1
            go_wp2_with fail
            go_ret
            exact ⟨rfl, Hkw1.out⟩
          · have hr' : r = false := by rw [Hr.out]; exact decide_eq_false fun h => h5 h.2.2.2.2
            subst hr'
            clear h1 hd1
            go_wp2_with fail
            go_ret
            exact ⟨by rw [decide_eq_false (show ¬ g.m ≤ 4096 by omega)]; rfl, Hkw1.out⟩
        · have hr' : r = false := by rw [Hr.out]; exact decide_eq_false fun h => h4 h.2.2.2.1
          subst hr'
          clear h1 hd1
          go_wp2_with fail
          go_ret
          exact ⟨rfl, Hkw1.out⟩
      · have hr' : r = false := by rw [Hr.out]; exact decide_eq_false fun h => h3 h.2.2.1
        subst hr'
        clear h1 hd1
        go_wp2_with fail
        go_ret
        exact ⟨rfl, Hkw1.out⟩
    · have hr' : r = false := by rw [Hr.out]; exact decide_eq_false fun h => h2 h.2.1
      subst hr'
      clear h1 hd1
      go_wp2_with fail
      go_ret
      exact ⟨rfl, Hkw1.out⟩
  · have hd1 : decide (g.b ∈ gsizes) = false := decide_eq_false h1
    rw [hd1]
    have hr' : r = false := by rw [Hr.out]; exact decide_eq_false fun h => h1 h.1
    subst hr'
    clear h1 hd1
    go_wp2_with fail
    go_ret
    exact ⟨rfl, Hkw1.out⟩
end Go.Proofs.Ytblmbchjafffbaa
