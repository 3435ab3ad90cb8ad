/-
  The reference's In: Take, Raw, Left, as the program's.
-/
import Derived.Test.YtbckbnmpeedodaaRefNum
import Derived.Test.YtbckbnmpeedodaaRegion
import Derived.Deep.QuietTactic
import Derived.BigQuiet
namespace Go.Proofs.Ytbckbnmpeedodaa
open Go.RowKit

/-- At block `p` a reference's In lies that has still to read `L`. -/
def RIn (w : World) (p : Nat) (g : Option Nat) (L : List UInt8) (bad : Int) : Prop :=
  ∃ (v : Value) (B : List UInt8) (at_ : Nat), Blk w p 58 #[v, .int .i64 at_, .int .i64 bad] ∧ Rd w v g (B.map bv) ∧ g ≠ some p ∧ at_ ≤ B.length ∧ L = B.drop at_ ∧ B.length ≤ 1099511627776

theorem RIn.keep {w w' : World} {p : Nat} {g : Option Nat} {L : List UInt8} {bad : Int} {S : Nat → Prop} (h : RIn w p g L bad) (hk : Keeps S w w') (hp : ¬ S p) (hg : ∀ b, g = some b → ¬ S b) : RIn w' p g L bad := by
  obtain ⟨v, B, a, hb, hr, hn, rest⟩ := h
  exact ⟨v, B, a, hb.keep hk hp, hr.keep hk hg, hn, rest⟩
theorem RIn.set {w : World} {p : Nat} {g : Option Nat} {v : Value} {B : List UInt8} {a : Int} {bad : Int} (hb : Blk w p 58 #[v, .int .i64 a, .int .i64 bad]) (hr : Rd w v g (B.map bv)) (hn : g ≠ some p) (j : Nat) (u : Value)
    (a' : Nat) (bad' : Int) (hj : (#[v, .int .i64 a, .int .i64 bad] : Array Value).setIfInBounds j u = #[v, .int .i64 a', .int .i64 bad']) (ha : a' ≤ B.length) (hB : B.length ≤ 1099511627776) : RIn (w.setCell ⟨p, j, none⟩ u) p g (B.drop a') bad' :=
  ⟨v, B, a', by rw [← hj]; exact hb.set_ j u, hr.keep ((Keeps.refl (only p) w).setCell (p := ⟨p, j, none⟩) (fun _ => rfl) u) (fun b hb' e => hn (by rw [hb']; exact congrArg some e)), hn, ha, rfl, hB⟩

set_option maxHeartbeats 400000 in
theorem rin_left (p : Nat) (g : Option Nat) (L : List UInt8) (bad : Int) (w : World) (h : RIn w p g L bad) :
    Calls Try.prog 32 #[.pointer (some ⟨p, 0, none⟩)] w fun e w' => e = .returned (.int .i64 (leftOf bad L)) ∧ ∃ n, w' = w.drewN n := by
  obtain ⟨v, B, a, hb, hr, _, ha, rfl, hB⟩ := h
  have c0 := hb.cell 0
  have c1 := hb.cell 1
  have c2 := hb.cell 2
  simp at c0 c1 c2
  obtain ⟨A, c, rfl, _⟩ := hr.form
  rw [List.length_map] at c0
  clear hr hb
  by_cases he : bad = 0
  · subst he
    have hw : IntKind.i64.wrap ((B.length : Int) - a) = B.length - a := IntWalk.i64_in _ (by omega)
    go_enter Try.func32, Try.ntmps32
    go_wp2
    go_quiet (fail)
    go_wp2
    go_ret
    exact ⟨by simp [leftOf]; omega, _, rfl⟩
  · have he' : (bad != 0) = true := by simpa using he
    have He := Lib.hid he
    clear he
    go_enter Try.func32, Try.ntmps32
    go_wp2
    go_ret
    exact ⟨by rw [leftOf, if_neg He.out]; rfl, 0, rfl⟩

def RetRTake (w : World) (p : Nat) (g : Option Nat) (L : List UInt8) (err n : Int) : Ending → World → Prop := fun e w' =>
  e = .returned (.int .u64 (takeVal L err n)) ∧ RIn w' p g (takeLeft L err n) (takeErr L err n) ∧ Keeps (only p) w w'

set_option maxHeartbeats 400000 in
theorem rtake_bad (p : Nat) (g : Option Nat) (L : List UInt8) (err n : Int) (w : World) (h : RIn w p g L err) (he : err ≠ 0) :
    Calls Try.prog 31 #[.pointer (some ⟨p, 0, none⟩), .int .i64 n] w (RetRTake w p g L err n) := by
  have hfin : RetRTake w p g L err n (.returned (.int .u64 0)) w := ⟨by simp [takeVal, he], by simpa [takeLeft, takeErr, he] using h, Keeps.refl _ _⟩
  obtain ⟨v, B, a, hb, hr, _, ha, rfl, hB⟩ := h
  have c2 := hb.cell 2
  simp at c2
  have he' : (err != 0) = true := by simpa using he
  have Hfin := Lib.hid hfin
  clear hfin
  clear hr hb he
  go_enter Try.func31, Try.ntmps31
  go_wp2
  go_ret
  exact Hfin.out

set_option maxHeartbeats 400000 in
theorem rtake_arg (p : Nat) (g : Option Nat) (L : List UInt8) (n : Int) (w : World) (h : RIn w p g L 0) (hn : n < 1 ∨ 8 < n) :
    Calls Try.prog 31 #[.pointer (some ⟨p, 0, none⟩), .int .i64 n] w (RetRTake w p g L 0 n) := by
  obtain ⟨v, B, a, hb, hr, hg, ha, rfl, hB⟩ := h
  have c2 := hb.cell 2
  have f2 := hb.frozen 2
  simp at c2
  have hfin : RetRTake w p g (B.drop a) 0 n (.returned (.int .u64 0)) (w.setCell ⟨p, 2, none⟩ (.int .i64 1)) := by
    refine ⟨?_, ?_, (Keeps.refl (only p) w).setCell (p := ⟨p, 2, none⟩) (fun _ => rfl) (.int .i64 1)⟩
    · rw [takeVal, if_neg (by omega)]; rfl
    · rw [takeLeft, if_neg (by omega), takeErr, if_neg (by simp), if_pos hn]
      exact RIn.set hb hr hg 2 _ a 1 rfl ha hB
  have Hfin := Lib.hid hfin
  clear hfin
  clear hr hb
  by_cases h1 : n < 1
  all_goals
    try have h8 : (8 : Int) < n := by omega
    go_enter Try.func31, Try.ntmps31
    go_wp2
    go_ret
    exact Hfin.out

set_option maxHeartbeats 400000 in
theorem rtake_short (p : Nat) (g : Option Nat) (L : List UInt8) (n : Int) (w : World) (h : RIn w p g L 0) (h1 : 1 ≤ n) (h8 : n ≤ 8) (hn : L.length < n) :
    Calls Try.prog 31 #[.pointer (some ⟨p, 0, none⟩), .int .i64 n] w (RetRTake w p g L 0 n) := by
  obtain ⟨v, B, a, hb, hr, hg, ha, rfl, hB⟩ := h
  have c0 := hb.cell 0
  have c1 := hb.cell 1
  have c2 := hb.cell 2
  have f2 := hb.frozen 2
  simp at c0 c1 c2
  have hfin : ∀ k, RetRTake w p g (B.drop a) 0 n (.returned (.int .u64 0)) ((w.drewN k).setCell ⟨p, 2, none⟩ (.int .i64 4)) := by
    intro k
    refine ⟨?_, ?_, ((Keeps.refl (only p) w).drewN k).setCell (p := ⟨p, 2, none⟩) (fun _ => rfl) (.int .i64 4)⟩
    · rw [takeVal, if_neg (by omega)]; rfl
    · rw [takeLeft, if_neg (by omega), takeErr, if_neg (by simp), if_neg (by omega), if_pos hn]
      exact RIn.set (w := w.drewN k) hb hr hg 2 _ a 4 rfl ha hB
  obtain ⟨A, c, rfl, _⟩ := hr.form
  rw [List.length_map] at c0
  have hl : (B.length : Int) - a < n := by simp at hn; omega
  have hw : IntKind.i64.wrap ((B.length : Int) - a) = B.length - a := IntWalk.i64_in _ (by omega)
  have Hfin := Lib.hid hfin
  clear hfin
  clear hr hb hn
  have h1' : ¬ n < 1 := by omega
  have h8' : ¬ (8 : Int) < n := by omega
  go_enter Try.func31, Try.ntmps31
  go_wp2
  go_quiet (fail)
  go_wp2
  go_ret
  exact Hfin.out _
end Go.Proofs.Ytbckbnmpeedodaa
