/-
  disk: the actions of a play in memory; plays that end at once.
-/
import Derived.Test.YtnddaildicmneaaPl4
namespace Go.Proofs.Ytnddaildicmneaa
open Go.Proofs Go.RowKit Go.Sort Go.Maps

structure Act7 where
  op : Int
  sec : Int
  num : Int
  bA : Option Addr
  bc : Nat
  bL : List UInt8
  bad : Bool
  kA : Option Addr
  kc : Nat
  keep : List Bool
def Act7.cs (t : Act7) : List Value := [.int .i64 t.op, .int .i64 t.sec, .int .i64 t.num, .slice t.bA t.bL.length t.bc, .bool t.bad, .slice t.kA t.keep.length t.kc]
def Act7.ok (w : World) (t : Act7) : Prop := (∃ g, recB.Rd w (.slice t.bA t.bL.length t.bc) g t.bL) ∧ (∃ g, recBo.Rd w (.slice t.kA t.keep.length t.kc) g t.keep) ∧ t.num ≤ 9223372036854775807
def Act7Arr (w : World) (A : Option Addr) (l : List Act7) : Prop := 0 < l.length → ∃ b off, A = some ⟨b, off, none⟩ ∧ b < w.heap.size ∧ ∀ (i : Nat) (t : Act7), l[i]? = some t → t.ok w ∧ ∀ k, k < 6 → w.cell? ⟨b, off + i * 6 + k, none⟩ = t.cs[k]?
set_option maxRecDepth 20000 in
set_option maxHeartbeats 2000000 in
/-- too many calls -/
theorem dplays_long (s z : Int) (A : Option Addr) (L c : Nat) (w : World) (h : 60 < L) : Calls Try.prog 8 #[.int .i64 s, .int .i64 z, .slice A L c] w (YesD w) := by
  have hkn := known7 w
  have g1 : (60 : Int) < (L : Int) := by omega
  have Hkn := Lib.hid hkn
  clear hkn
  go_enter Try.func8, Try.ntmps8
  go_wp2_with fail
  refine (Hkn.out).mono ?_
  rintro e w1 ⟨rfl, hk1⟩
  go_wp2_with fail
  go_ret
  exact ⟨rfl, hk1⟩
set_option maxRecDepth 20000 in
set_option maxHeartbeats 2000000 in
/-- too many sectors -/
theorem dplays_wide (s z : Int) (A : Option Addr) (L c : Nat) (w : World) (h : ¬ 60 < L) (h1 : 50 < s) (h2 : s ≤ 16384) : Calls Try.prog 8 #[.int .i64 s, .int .i64 z, .slice A L c] w (YesD w) := by
  have hkn := known7 w
  have g1 : ¬ (60 : Int) < (L : Int) := by omega
  have Hkn := Lib.hid hkn
  clear hkn
  go_enter Try.func8, Try.ntmps8
  go_wp2_with fail
  refine (Hkn.out).mono ?_
  rintro e w1 ⟨rfl, hk1⟩
  go_wp2_with fail
  go_ret
  exact ⟨rfl, hk1⟩
set_option maxRecDepth 20000 in
set_option maxHeartbeats 4000000 in
/-- no such disk -/
theorem dplays_bad (s z : Int) (A : Option Addr) (L c : Nat) (w : World) (h : ¬ 60 < L) (h1 : ¬ (50 < s ∧ s ≤ 16384)) (hb : (decide (1 ≤ s) && decide (s ≤ 16384) && decide (64 ≤ z) && decide (z ≤ 1024)) = false) : Calls Try.prog 8 #[.int .i64 s, .int .i64 z, .slice A L c] w (YesD w) := by
  have hkn := known7 w
  have g1 : ¬ (60 : Int) < (L : Int) := by omega
  by_cases a1 : 1 ≤ s
  · by_cases a2 : s ≤ 16384
    · have a0 : ¬ 50 < s := fun h => h1 ⟨h, a2⟩
      by_cases a3 : 64 ≤ z
      · have a4 : ¬ z ≤ 1024 := fun a4 => by simp [a1, a2, a3, a4] at hb
        have a5 : decide (z ≤ 1024) = false := by simp; omega
        have Hkn := Lib.hid hkn
        have Hb := Lib.hid hb
        have H1 := Lib.hid h1
        clear hkn hb h1
        go_enter Try.func8, Try.ntmps8
        go_wp2_with fail
        refine (Hkn.out).mono ?_
        rintro e w1 ⟨rfl, hk1⟩
        go_wp2_with fail
        refine (dnew_bad s z _ Hb.out).mono ?_
        rintro e w2 ⟨rfl, rfl⟩
        go_wp2_with fail
        go_ret
        exact ⟨rfl, hk1⟩
      · have Hkn := Lib.hid hkn
        have Hb := Lib.hid hb
        have H1 := Lib.hid h1
        clear hkn hb h1
        go_enter Try.func8, Try.ntmps8
        go_wp2_with fail
        refine (Hkn.out).mono ?_
        rintro e w1 ⟨rfl, hk1⟩
        go_wp2_with fail
        refine (dnew_bad s z _ Hb.out).mono ?_
        rintro e w2 ⟨rfl, rfl⟩
        go_wp2_with fail
        go_ret
        exact ⟨rfl, hk1⟩
    · have a0 : 50 < s := by omega
      have Hkn := Lib.hid hkn
      have Hb := Lib.hid hb
      have H1 := Lib.hid h1
      clear hkn hb h1
      go_enter Try.func8, Try.ntmps8
      go_wp2_with fail
      refine (Hkn.out).mono ?_
      rintro e w1 ⟨rfl, hk1⟩
      go_wp2_with fail
      refine (dnew_bad s z _ Hb.out).mono ?_
      rintro e w2 ⟨rfl, rfl⟩
      go_wp2_with fail
      go_ret
      exact ⟨rfl, hk1⟩
  · have a0 : ¬ 50 < s := by omega
    have Hkn := Lib.hid hkn
    have Hb := Lib.hid hb
    have H1 := Lib.hid h1
    clear hkn hb h1
    go_enter Try.func8, Try.ntmps8
    go_wp2_with fail
    refine (Hkn.out).mono ?_
    rintro e w1 ⟨rfl, hk1⟩
    go_wp2_with fail
    refine (dnew_bad s z _ Hb.out).mono ?_
    rintro e w2 ⟨rfl, rfl⟩
    go_wp2_with fail
    go_ret
    exact ⟨rfl, hk1⟩
end Go.Proofs.Ytnddaildicmneaa
