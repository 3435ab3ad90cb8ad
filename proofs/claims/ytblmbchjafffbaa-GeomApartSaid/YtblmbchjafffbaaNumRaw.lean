/-
  num.Out.Raw appends bytes, whatever slice they come in.
-/
import Derived.Test.YtblmbchjafffbaaNumOut
import Derived.Laws.AppendOwnNone
namespace Go.Proofs.Ytblmbchjafffbaa
open Go.RowKit

theorem OutAt.set {w : World} {p N : Nat} {v0 v' : Value} {M : List UInt8} (h1 : Blk w p 77 #[v0]) (hown : w.ownsRow 0 5 1 v' N (M.map bv)) :
    OutAt (w.setCell ⟨p, 0, none⟩ v') p v'.ownBlock M := by
  have hN : N = M.length := by have := hown.1; simp at this; omega
  subst hN
  have hne : v'.ownBlock ≠ some p := own_blk_ne hown h1 (by decide)
  refine ⟨_, by simpa using h1.set_ 0 v', ?_, rfl⟩
  exact own_keep (S := only p) hown ((Keeps.refl (only p) w).setCell (p := ⟨p, 0, none⟩) (fun _ => rfl) v') (fun b hb e => hne (by rw [hb]; exact congrArg some e))

theorem raw_close {w w1 : World} {p N : Nat} {g : Option Nat} {v0 v' : Value} {L M : List UInt8} (hp : Blk w p 77 #[v0]) (hv0 : v0.ownBlock = g) (hvp : some p ≠ v0.ownBlock)
    (hown : w1.ownsRow 0 5 1 v' N (L.map bv ++ M.map bv)) (hg : w.grownBy w1 v0.ownBlock) (hat : v'.ownBlock = v0.ownBlock ∨ v'.ownBlock = some w.heap.size) :
    RetOut p g w (L ++ M) (.returned (.tuple #[])) (w1.setCell ⟨p, 0, none⟩ v') := by
  refine ⟨rfl, v'.ownBlock, OutAt.set (hp.grown hg hvp) (by simpa using hown), fun b hb => ?_, ((Keeps.refl _ w).grown hg (fun k hk _ => .inr (by rw [← hv0, hk]))).setCell (fun _ => .inl rfl) _⟩
  rcases hat with h | h
  · exact .inl (by rw [← hv0, ← h, hb])
  · rw [h] at hb; injection hb with hb; exact .inr (by omega)

set_option maxHeartbeats 400000 in
theorem out_raw (p : Nat) (g gm : Option Nat) (L M : List UInt8) (v : Value) (w : World) (ho : OutAt w p g L) (hr : Rd w v gm (M.map bv)) (hb : L.length + M.length ≤ 1099511627776) :
    Calls Try.prog 41 #[.pointer (some ⟨p, 0, none⟩), v] w (RetOut p g w (L ++ M)) := by
  obtain ⟨v0, hp, hown, hv0⟩ := ho
  have hc0 := hp.cell 0
  have hf0 := hp.frozen 0
  simp at hc0
  have hvp : some p ≠ v0.ownBlock := fun e => own_blk_ne hown hp (by decide) e.symm
  have hplt := hp.lt
  obtain ⟨i0, hi, hz0, hz1, hz2⟩ := info_parts infoU8
  have Hp := Lib.hid hp
  have Hv0 := Lib.hid hv0
  clear hp hv0
  rcases hr with ⟨rfl, _, hM⟩ | ⟨a, cap, rfl, _, _, h1, h2, hc⟩
  · have hM' : M = [] := by simpa using hM
    subst hM'
    have hcl := raw_close (v' := v0) (N := L.length) (M := []) Hp.out Hv0.out hvp (by simpa using hown) (World.grownBy.refl w _) (.inl rfl)
    have Hcl := Lib.hid hcl
    clear hcl
    rcases hown.2 with ⟨rfl, _⟩ | ⟨g', cap', cur', rfl, _⟩
    all_goals
      go_enter Try.func41, Try.ntmps41
      go_wp2_with (at_builtin; refine wpList_append_own_none rfl _ _ 24 rfl 0 5 i0 1 Try.underlying24 hi _ L.length (L.map bv) rfl hown rfl ?_)
      go_end0
      exact Hcl.out
  · have Hc := Lib.hid hc
    have Hown := Lib.hid hown
    rw [List.length_map] at h1
    rw [List.length_map]
    clear hc hown
    go_enter Try.func41, Try.ntmps41
    go_wp2_with (at_builtin; refine wpList_append_own_at _ rfl _ _ 24 rfl 0 5 i0 (.int .u8 0) 1 1 Try.underlying24 hi hz0 hz1 hz2 rfl (by decide) v0 L.length (L.map bv) rfl Hown.out a M.length cap (M.map bv) rfl ?c1 ?c2 ?c3 ?c4 ?c5 ?c6 ?_)
    case c1 => simp
    case c2 => exact Hc.out
    case c3 => exact bv_one M
    case c4 => unfold maxLen; omega
    case c5 => omega
    case c6 => exact Nat.zero_le _
    intro v' w1 hown1 hgrow _ hat
    have hcl := raw_close Hp.out Hv0.out hvp hown1 hgrow hat
    have hcw : w1.cell? ⟨p, 0, none⟩ = some v0 := (hgrow.cell_far ⟨p, 0, none⟩ hplt hvp).trans hc0
    have hfw : w1.frozen? ⟨p, 0, none⟩ = false := (hgrow.frozen_far ⟨p, 0, none⟩ hplt hvp).trans hf0
    have Hcl := Lib.hid hcl
    have hown2 := hown1.2
    clear hcl hown1 hgrow hat
    rcases hown2 with ⟨rfl, _⟩ | ⟨g', cap', cur', rfl, _⟩
    all_goals
      go_wp2
      go_end0
      exact Hcl.out
end Go.Proofs.Ytblmbchjafffbaa
