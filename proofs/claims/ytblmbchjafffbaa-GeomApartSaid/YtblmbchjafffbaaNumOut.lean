/-
  num.Out: what is written. Put appends a number's lowest bytes, Raw appends bytes, Bytes tells them all.
-/
import Derived.Test.YtblmbchjafffbaaClone
import Derived.Test.YtblmbchjafffbaaBits
import Derived.Deep.RegionHeld3
import Derived.Deep.DrawnRows
import Derived.Outline
import Derived.IntWalk
namespace Go.Proofs.Ytblmbchjafffbaa
open Go.RowKit

/-- At block `p` an Out lies that has written `L`; its row lies in block `g`. -/
def OutAt (w : World) (p : Nat) (g : Option Nat) (L : List UInt8) : Prop :=
  ∃ v, Blk w p 77 #[v] ∧ w.ownsRow 0 5 1 v L.length (L.map bv) ∧ v.ownBlock = g

theorem OutAt.new (w : World) : OutAt (w.alloc (.cells #[.slice none 0 0] 77)) w.heap.size none [] :=
  ⟨_, Blk.new _ _ _, World.ownsRow_nil _ _ _ _, rfl⟩
theorem OutAt.keep {w w' : World} {p : Nat} {g : Option Nat} {L : List UInt8} {S : Nat → Prop} (h : OutAt w p g L) (hk : Keeps S w w') (hp : ¬ S p) (hg : ∀ b, g = some b → ¬ S b) : OutAt w' p g L := by
  obtain ⟨v, hb, ho, rfl⟩ := h
  exact ⟨v, hb.keep hk hp, own_keep ho hk hg, rfl⟩
theorem OutAt.lt {w : World} {p : Nat} {g : Option Nat} {L : List UInt8} (h : OutAt w p g L) : p < w.heap.size ∧ ∀ b, g = some b → b < w.heap.size := by
  obtain ⟨v, hb, ho, rfl⟩ := h
  exact ⟨hb.lt, fun b hb' => (ho.lt b hb').2⟩

def RetOut (p : Nat) (g : Option Nat) (w : World) (L : List UInt8) : Ending → World → Prop := fun e w' =>
  e = .returned (.tuple #[]) ∧ ∃ g', OutAt w' p g' L ∧ From g w.heap.size g' ∧ Keeps (only2 p g) w w'

set_option maxHeartbeats 400000 in
theorem out_bytes (p : Nat) (g : Option Nat) (L : List UInt8) (w : World) (ho : OutAt w p g L) (hb : L.length ≤ 1099511627776) :
    Calls Try.prog 42 #[.pointer (some ⟨p, 0, none⟩)] w (RetBytes w L) := by
  obtain ⟨v, hp, hown, _⟩ := ho
  have hc := hp.cell 0
  simp at hc
  have hr := Rd.of_own hown
  have Hr := Lib.hid hr
  have Hp := Lib.hid hp
  have Ho := Lib.hid hown
  clear hr hp hown
  go_enter Try.func42, Try.ntmps42
  go_wp2_with fail
  refine (clone_any _ _ L _ Hr.out (by omega)).mono ?_
  rintro e w1 ⟨v1, g1, rfl, hr1, hf1, hk1⟩
  have Hr1 := Lib.hid hr1
  have Hf := Lib.hid hf1
  have Hk := Lib.hid hk1
  clear hr1 hf1 hk1
  go_wp2_with fail
  refine (clip_any _ _ _ _ Hr1.out).mono ?_
  rintro e w2 ⟨⟨v2, rfl, hr2⟩, rfl⟩
  have Hr2 := Lib.hid hr2
  clear hr2
  go_wp2_with fail
  go_ret
  exact ⟨v2, g1, rfl, Hr2.out, Hf.out, Hk.out⟩

theorem out_step {wr w1 : World} {o : Obj} {p g1 cap : Nat} {v0 : Value} {M : List UInt8} {b : UInt8} {x : Value} (hp : Blk wr p 77 #[v0]) (hv : some p ≠ v0.ownBlock)
    (hg : (wr.alloc o).drew.grownBy w1 v0.ownBlock) (hx : x = bv b)
    (hown : w1.ownsRow 0 5 1 (.slice (some ⟨g1, 0, none⟩) (M.length + 1) cap) (M.length + 1) (M.map bv ++ [x])) :
    OutAt (w1.setCell ⟨p, 0, none⟩ (.slice (some ⟨g1, 0, none⟩) (M.length + 1) cap)) p (some g1) (M ++ [b]) := by
  subst hx
  have h1 : Blk w1 p 77 #[v0] := ((hp.alloc o).drew).grown hg hv
  have h2 := h1.set_ 0 (.slice (some ⟨g1, 0, none⟩) (M.length + 1) cap)
  have hne : Value.ownBlock (.slice (some ⟨g1, 0, none⟩) (M.length + 1) cap) ≠ some p := own_blk_ne hown h1 (by decide)
  refine ⟨_, by simpa using h2, ?_, rfl⟩
  have h3 := own_keep (S := only p) hown ((Keeps.refl (only p) w1).setCell (p := ⟨p, 0, none⟩) (fun _ => rfl) (.slice (some ⟨g1, 0, none⟩) (M.length + 1) cap)) (fun b hb e => hne (by rw [hb]; exact congrArg some e))
  simpa using h3

set_option maxHeartbeats 400000 in
theorem out_put_no (p : Nat) (n v : Int) (w : World) (hn : n < 1 ∨ 8 < n) :
    Calls Try.prog 40 #[.pointer (some ⟨p, 0, none⟩), .int .i64 n, .int .u64 v] w fun e w' => e = .returned (.tuple #[]) ∧ w = w' := by
  rcases hn with h | h
  · go_enter Try.func40, Try.ntmps40
    go_wp2
    refine bodyPost_ret (results_none rfl _ _ _) rfl ?_
    exact ⟨rfl, rfl⟩
  · have h' : ¬ n < 1 := by omega
    go_enter Try.func40, Try.ntmps40
    go_wp2
    refine bodyPost_ret (results_none rfl _ _ _) rfl ?_
    exact ⟨rfl, rfl⟩

set_option maxHeartbeats 800000 in
theorem out_put (p : Nat) (g : Option Nat) (L : List UInt8) (n : Nat) (v : Nat) (w : World) (ho : OutAt w p g L) (h1 : 1 ≤ n) (h8 : n ≤ 8) (hv : v < 18446744073709551616) (hb : L.length ≤ 1099511627776) :
    Calls Try.prog 40 #[.pointer (some ⟨p, 0, none⟩), .int .i64 n, .int .u64 v] w (RetOut p g w (L ++ nb n v)) := by
  have h1' : ¬ (n : Int) < 1 := by omega
  have h8' : ¬ (8 : Int) < n := by omega
  have Ho := Lib.hid ho
  clear ho
  have Hv := Lib.hid hv
  clear hv
  obtain ⟨i0, hi, hz0, hz1, hz2⟩ := info_parts infoU8
  go_enter Try.func40, Try.ntmps40
  go_wp2
  go_loopw [14] (fun i wr => ∃ (k : Nat) (gk : Option Nat), k ≤ n ∧ i = .int .i64 k ∧ OutAt wr p gk (L ++ nb k v) ∧ Keeps (only2 p g) w wr ∧ (∀ b, gk = some b → g = some b ∨ w.heap.size ≤ b)) (fun i _ => n - (intOf i).toNat)
  case atStart => exact ⟨0, g, Nat.zero_le _, rfl, by simpa [nb] using Ho.out, Keeps.refl _ _, fun b h => .inl h⟩
  case round =>
    obtain ⟨k, gk, hk, rfl, hok, hkeep, hgk⟩ := hrel
    have Hgk := Lib.hid hgk
    have Hkeep := Lib.hid hkeep
    clear hgk hkeep
    obtain ⟨v0, hp, hown, hv0⟩ := hok
    by_cases hlt : k < n
    · have hc0 := hp.cell 0
      have hlen : (L ++ nb k v).length ≤ 1099511627776 + 8 := by simp [nb_len]; omega
      have hf0 := hp.frozen 0
      simp at hc0
      have Hown := Lib.hid hown
      have Hp := Lib.hid hp
      have Hv0 := Lib.hid hv0
      clear hown hp hv0
      have hw8 : IntKind.i64.wrap (8 * (k : Int)) = 8 * k := IntWalk.i64_in _ (by omega)
      have h80 : (0 : Int) ≤ 8 * k := by omega
      go_wp2
      have hvp : some p ≠ v0.ownBlock := fun e => own_blk_ne Hown.out Hp.out (by decide) e.symm
      have hplt := Hp.out.lt
      go_region_law
        ((refine step_append_lies _ (by rfl) (.tmp 21) (.tmp 27) 24 (by rfl) 0 5 i0 (.int .u8 0) 1 1 Try.underlying24 hi hz0 hz1 hz2 rfl (by decide) v0 (L ++ nb k v).length ((L ++ nb k v).map bv) (by rfl) (Hown.out.alloc _) ⟨wr.heap.size, 0, none⟩ 1 1 [.int .u8 (IntKind.u8.wrap ((v : Int) / 2 ^ (8 * (k : Int)).toNat))] (by rfl) rfl (World.news_of_block (heap_alloc_new wr _)) (by simp; rfl) (by omega) (by unfold maxLen; omega) (by omega) (Nat.zero_le _) (wr.heap.size + 1) (by simp) ?_
          intro g1 cap w1 hown1 hgrow hat hlt1
          have hcw : w1.cell? ⟨p, 0, none⟩ = some v0 := (hgrow.cell_far ⟨p, 0, none⟩ (by simp; omega) hvp).trans (by go_simp)
          have hfw : w1.frozen? ⟨p, 0, none⟩ = false := (hgrow.frozen_far ⟨p, 0, none⟩ (by simp; omega) hvp).trans (by go_simp)))
      all_goals
        go_wp2
        go_roundw
        case rel =>
          refine ⟨k + 1, some g1, by omega, by go_num, ?_, ?_, ?_⟩
          · rw [nb_succ, ← List.append_assoc]
            have := out_step Hp.out hvp hgrow (byte_of v k) hown1
            simpa using this
          · refine (((Hkeep.out.alloc _).drew).grown hgrow (fun b hb hlt => ?_)).setCell (fun _ => .inl rfl) _
            rw [Hv0.out] at hb
            rcases Hgk.out b hb with h | h
            · exact .inr h.symm
            · omega
          · intro b hb
            injection hb with hb
            subst hb
            have hs := Hkeep.out.size
            rcases hat with h | h
            · rw [Hv0.out] at h; exact Hgk.out _ h
            · exact .inr (by omega)
        case measure => simp [intOf]; omega
    · go_wp2
      obtain rfl : k = n := by omega
      refine bodyPost_end (results_none rfl _ _ _) rfl ?_
      exact ⟨rfl, gk, ⟨v0, hp, hown, hv0⟩, Hgk.out, Hkeep.out⟩
end Go.Proofs.Ytblmbchjafffbaa
