/-
  num.In.Raw: bytes, or an error that stays.
-/
import Derived.Test.YtblmbchjafffbaaNumTake
namespace Go.Proofs.Ytblmbchjafffbaa
open Go.RowKit

def rawVal (L : List UInt8) (err n : Int) : List UInt8 := if err = 0 ∧ 0 ≤ n ∧ n ≤ L.length then L.take n.toNat else []
def rawErr (L : List UInt8) (err n : Int) : Int := if err ≠ 0 then err else if n < 0 then 1 else if L.length < n then 4 else 0
def rawLeft (L : List UInt8) (err n : Int) : List UInt8 := if err = 0 ∧ 0 ≤ n ∧ n ≤ L.length then L.drop n.toNat else L

def RetRaw (w : World) (p : Nat) (g : Option Nat) (L : List UInt8) (err n : Int) : Ending → World → Prop := fun e w' =>
  ∃ v' g', e = .returned v' ∧ Rd w' v' g' ((rawVal L err n).map bv) ∧ Above w.heap.size g' ∧ InAt w' p g (rawLeft L err n) (rawErr L err n) ∧ Keeps (only p) w w'

set_option maxHeartbeats 400000 in
theorem raw_bad (p : Nat) (g : Option Nat) (L : List UInt8) (err n : Int) (w : World) (h : InAt w p g L err) (he : err ≠ 0) :
    Calls Try.prog 62 #[.pointer (some ⟨p, 0, none⟩), .int .i64 n] w (RetRaw w p g L err n) := by
  have hfin : RetRaw w p g L err n (.returned (.slice none 0 0)) w := ⟨_, none, rfl, by simp [rawVal, he, Rd], Above.none _, by simpa [rawLeft, rawErr, he] using h, Keeps.refl _ _⟩
  obtain ⟨v, hb, hr, _⟩ := h
  have hc1 := hb.cell 1
  simp at hc1
  have he' : (err != 0) = true := by simpa using he
  have Hfin := Lib.hid hfin
  clear hr hb he hfin
  go_enter Try.func62, Try.ntmps62
  go_wp2
  go_ret
  exact Hfin.out

theorem InAt.fail {w : World} {p : Nat} {g : Option Nat} {L : List UInt8} {v : Value} (hb : Blk w p 109 #[v, .int .i64 0]) (hr : Rd w v g (L.map bv)) (hg : g ≠ some p) (x : Int) :
    InAt (w.setCell ⟨p, 1, none⟩ (.int .i64 x)) p g L x :=
  ⟨v, by simpa using hb.set_ 1 (.int .i64 x), hr.keep ((Keeps.refl (only p) w).setCell (p := ⟨p, 1, none⟩) (fun _ => rfl) (.int .i64 x)) (fun b hb' e => hg (by rw [hb']; exact congrArg some e)), hg⟩

set_option maxHeartbeats 400000 in
theorem raw_arg (p : Nat) (g : Option Nat) (L : List UInt8) (n : Int) (w : World) (h : InAt w p g L 0) (hn : n < 0) :
    Calls Try.prog 62 #[.pointer (some ⟨p, 0, none⟩), .int .i64 n] w (RetRaw w p g L 0 n) := by
  obtain ⟨v, hb, hr, hg⟩ := h
  have hc1 := hb.cell 1
  simp at hc1
  have hk := (Keeps.refl (only p) w).setCell (p := ⟨p, 1, none⟩) (fun _ => rfl) (.int .i64 1)
  have hfin : RetRaw w p g L 0 n (.returned (.slice none 0 0)) (w.setCell ⟨p, 1, none⟩ (.int .i64 1)) := by
    refine ⟨_, none, rfl, ?_, Above.none _, ?_, hk⟩
    · rw [rawVal, if_neg (by omega)]; exact Rd.nil _
    · rw [rawLeft, if_neg (by omega), rawErr, if_neg (by simp), if_pos hn]
      exact InAt.fail hb hr hg 1
  have Hfin := Lib.hid hfin
  have Hb := Lib.hid hb
  have hmi : ∀ w, (Instr.makeInterface 25 (.int .i64 1)).run Try.prog w = .ok (.iface 25 (.int .i64 1)) w := fun _ => by kernel_rfl
  clear hr hb hfin hk
  go_enter_defers Try.func62, Try.ntmps62
  go_wp2
  refine leaves_cons (f := 63) (args := #[.pointer (some ⟨p, 0, none⟩)]) (by simp) (by simp [go_sem]) ?_
  refine (caught_panic p 1 v 0 [] w Hb.out).mono ?_
  rintro e u' w'' ⟨rfl, rfl, rfl⟩
  simp [Leaves, settle, results, Try.results62, go_sem]
  exact Hfin.out

set_option maxHeartbeats 400000 in
theorem raw_short (p : Nat) (g : Option Nat) (L : List UInt8) (n : Int) (w : World) (h : InAt w p g L 0) (h1 : 0 ≤ n) (hn : L.length < n) :
    Calls Try.prog 62 #[.pointer (some ⟨p, 0, none⟩), .int .i64 n] w (RetRaw w p g L 0 n) := by
  have hcut := cut_short p g L 0 n w h hn
  obtain ⟨v, hb, hr, hg⟩ := h
  have hc1 := hb.cell 1
  simp at hc1
  have hk := (Keeps.refl (only p) w).setCell (p := ⟨p, 1, none⟩) (fun _ => rfl) (.int .i64 4)
  have hfin : RetRaw w p g L 0 n (.returned (.slice none 0 0)) (w.setCell ⟨p, 1, none⟩ (.int .i64 4)) := by
    refine ⟨_, none, rfl, ?_, Above.none _, ?_, hk⟩
    · rw [rawVal, if_neg (by omega)]; exact Rd.nil _
    · rw [rawLeft, if_neg (by omega), rawErr, if_neg (by simp), if_neg (by omega), if_pos hn]
      exact InAt.fail hb hr hg 4
  have Hfin := Lib.hid hfin
  have Hb := Lib.hid hb
  have Hcut := Lib.hid hcut
  clear hr hb hfin hk hcut
  have h1' : ¬ n < 0 := by omega
  go_enter_defers Try.func62, Try.ntmps62
  go_wp2_with fail
  refine Hcut.out.mono ?_
  rintro e w' ⟨rfl, rfl⟩
  refine leaves_cons (f := 63) (args := #[.pointer (some ⟨p, 0, none⟩)]) (by simp) (by simp [go_sem]) ?_
  refine (caught_panic p 4 v 0 [] w Hb.out).mono ?_
  rintro e u' w'' ⟨rfl, rfl, rfl⟩
  simp [Leaves, settle, results, Try.results62, go_sem]
  exact Hfin.out

set_option maxHeartbeats 400000 in
theorem raw_ok (p : Nat) (g : Option Nat) (L : List UInt8) (n : Nat) (w : World) (h : InAt w p g L 0) (hn : n ≤ L.length) (hL : L.length ≤ 1099511627776) :
    Calls Try.prog 62 #[.pointer (some ⟨p, 0, none⟩), .int .i64 n] w (RetRaw w p g L 0 n) := by
  have hcut := cut_ok p g L 0 n w h hn
  have hlt := h.lt
  have hc1 : w.cell? ⟨p, 1, none⟩ = some (.int .i64 0) := by
    obtain ⟨v, hb, hr, hg⟩ := h
    simpa using hb.cell 1
  have Hcut := Lib.hid hcut
  have Hlt := Lib.hid hlt
  clear hcut h hlt
  have h1' : ¬ (n : Int) < 0 := by omega
  go_enter_defers Try.func62, Try.ntmps62
  go_wp2_with fail
  refine Hcut.out.mono ?_
  rintro e w1 ⟨v', rfl, hr, hin, hk⟩
  have Hin := Lib.hid hin
  have Hk := Lib.hid hk
  have Hr := Lib.hid hr
  clear hin hk hr
  go_wp2_with fail
  refine (clone_any _ _ (L.take n) _ Hr.out (by simp; omega)).mono ?_
  rintro e w2 ⟨v2, g2, rfl, hr2, hf2, hk2⟩
  have Hr2 := Lib.hid hr2
  have Hf2 := Lib.hid hf2
  have Hk2 := Lib.hid hk2
  clear hr2 hf2 hk2
  go_wp2_with fail
  refine (clip_any _ _ _ _ Hr2.out).mono ?_
  rintro e w3 ⟨⟨v3, rfl, hr3⟩, rfl⟩
  have Hr3 := Lib.hid hr3
  clear hr3
  go_wp2_with fail
  refine leaves_cons (f := 63) (args := #[.pointer (some ⟨p, 0, none⟩)]) (by simp) (by simp [go_sem]) ?_
  refine (caught_idle p w2).mono ?_
  rintro e u' w'' ⟨rfl, rfl, rfl⟩
  simp [Leaves, settle, results, Try.results62, go_sem]
  refine ⟨v3, g2, rfl, ?_, fun b hb => Nat.le_trans Hk.out.size (Hf2.out b hb), ?_, Hk.out.trans Hk2.out (fun _ _ h => h.elim)⟩
  · rw [rawVal, if_pos (by omega)]; simpa using Hr3.out
  · rw [rawLeft, if_pos (by omega), rawErr, if_neg (by simp), if_neg (by omega), if_neg (by omega)]
    simpa using Hin.out.keep Hk2.out (fun h => h) (fun _ _ h => h)

theorem raw_any (p : Nat) (g : Option Nat) (L : List UInt8) (err n : Int) (w : World) (h : InAt w p g L err) (hL : L.length ≤ 1099511627776) :
    Calls Try.prog 62 #[.pointer (some ⟨p, 0, none⟩), .int .i64 n] w (RetRaw w p g L err n) := by
  by_cases he : err = 0
  · subst he
    by_cases h1 : n < 0
    · exact raw_arg p g L n w h h1
    · by_cases h2 : L.length < n
      · exact raw_short p g L n w h (by omega) h2
      · obtain ⟨m, rfl⟩ := Int.eq_ofNat_of_zero_le (show 0 ≤ n by omega)
        exact raw_ok p g L m w h (by omega) hL
  · exact raw_bad p g L err n w h he
end Go.Proofs.Ytblmbchjafffbaa
