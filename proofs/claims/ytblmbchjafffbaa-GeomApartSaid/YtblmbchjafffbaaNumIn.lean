/-
  num.In: what is read. Of, cut, the deferred 'caught', Take, Raw, Left, Err.
-/
import Derived.Test.YtblmbchjafffbaaNumRaw
import Derived.Defers
import Derived.Recover
namespace Go.Proofs.Ytblmbchjafffbaa
open Go.RowKit

/-- At block `p` an In lies that has still to read `L`; `err` is its error. -/
def InAt (w : World) (p : Nat) (g : Option Nat) (L : List UInt8) (err : Int) : Prop :=
  ∃ v, Blk w p 109 #[v, .int .i64 err] ∧ Rd w v g (L.map bv) ∧ g ≠ some p

theorem InAt.keep {w w' : World} {p : Nat} {g : Option Nat} {L : List UInt8} {err : Int} {S : Nat → Prop} (h : InAt w p g L err) (hk : Keeps S w w') (hp : ¬ S p) (hg : ∀ b, g = some b → ¬ S b) : InAt w' p g L err := by
  obtain ⟨v, hb, hr, hn⟩ := h
  exact ⟨v, hb.keep hk hp, hr.keep hk hg, hn⟩
theorem InAt.lt {w : World} {p : Nat} {g : Option Nat} {L : List UInt8} {err : Int} (h : InAt w p g L err) : p < w.heap.size ∧ ∀ b, g = some b → b < w.heap.size := by
  obtain ⟨v, hb, hr, _⟩ := h
  exact ⟨hb.lt, hr.lt⟩

/-- what Left tells -/
def leftOf (err : Int) (L : List UInt8) : Int := if err = 0 then L.length else 0

set_option maxHeartbeats 400000 in
theorem in_of (v : Value) (g : Option Nat) (L : List UInt8) (w : World) (hr : Rd w v g (L.map bv)) (hb : L.length ≤ 140737488351232) :
    Calls Try.prog 58 #[v] w fun e w' => ∃ p g', e = .returned (.pointer (some ⟨p, 0, none⟩)) ∧ InAt w' p g' L 0 ∧ w.heap.size ≤ p ∧ Above w.heap.size g' ∧ Keeps nowhere w w' := by
  have Hr := Lib.hid hr
  clear hr
  go_enter Try.func58, Try.ntmps58
  go_wp2_with fail
  refine (clone_any _ _ L _ Hr.out hb).mono ?_
  rintro e w1 ⟨v1, g1, rfl, hr1, hf1, hk1⟩
  obtain ⟨A, c, rfl, _⟩ := hr1.form
  have Hr1 := Lib.hid hr1
  have Hf1 := Lib.hid hf1
  have Hk1 := Lib.hid hk1
  clear hr1 hf1 hk1
  go_wp2_with fail
  go_ret
  have hs := Hk1.out.size
  refine ⟨w1.heap.size, g1, rfl, ⟨_, Blk.new _ _ _, ?_, fun e => ?_⟩, hs, Hf1.out, Hk1.out.alloc _⟩
  · simpa using Hr1.out.keep (S := nowhere) ((Keeps.refl _ w1).alloc (.cells #[.slice A L.length c, .int .i64 0] 109)) (fun _ _ h => h)
  · exact absurd (Hr1.out.lt _ e) (Nat.lt_irrefl _)
end Go.Proofs.Ytblmbchjafffbaa
