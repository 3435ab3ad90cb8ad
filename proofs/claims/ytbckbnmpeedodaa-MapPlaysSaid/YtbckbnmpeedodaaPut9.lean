/-
  loggialaw9.put: a copy of a row of marks, some of them set anew.
-/
import Derived.Test.YtbckbnmpeedodaaRows9
import Derived.Test.YtbckbnmpeedodaaAppend
namespace Go.Proofs.Ytbckbnmpeedodaa
open Go.RowKit

theorem infoBool : (Try.prog.info? 4).map (fun i => (i.zero, i.size, i.bytes)) = some (some (.bool false), 1, 1) := by kernel_rfl

/-- The slice `v` is a row of `n` marks in the block `b`. -/
def RowAt (w : World) (v : Value) (b n : Nat) (f : Nat → Bool) : Prop :=
  ∃ cap rest, v = .slice (some ⟨b, 0, none⟩) n cap ∧ Blk w b 4 (rowV n f ++ rest).toArray ∧ n ≤ cap ∧ cap ≤ maxLen
theorem RowAt.cells {w : World} {v : Value} {b n : Nat} {f : Nat → Bool} (h : RowAt w v b n f) : ∃ cap, v = .slice (some ⟨b, 0, none⟩) n cap ∧ b < w.heap.size ∧ ∀ j, j < n → w.cell? ⟨b, j, none⟩ = some (.bool (f j)) := by
  obtain ⟨cap, rest, rfl, hb, _⟩ := h
  refine ⟨cap, rfl, hb.lt, fun j hj => ?_⟩
  rw [hb.cell j, List.getElem?_toArray, List.getElem?_append_left (by rw [rowV_len]; exact hj), rowV_get n f hj]
theorem RowAt.keep {w w' : World} {v : Value} {b n : Nat} {f : Nat → Bool} {S : Nat → Prop} (h : RowAt w v b n f) (hk : Keeps S w w') (hs : ¬ S b) : RowAt w' v b n f := by
  obtain ⟨cap, rest, rfl, hb, h2⟩ := h
  exact ⟨cap, rest, rfl, hb.keep hk hs, h2⟩
theorem RowAt.rd {w : World} {v : Value} {b n : Nat} {f : Nat → Bool} (h : RowAt w v b n f) : Rd w v (some b) (rowV n f) := by
  obtain ⟨cap, hv, hlt, hc⟩ := h.cells
  obtain ⟨cap', rest, rfl, hb, h2, h3⟩ := h
  refine .inr ⟨⟨b, 0, none⟩, cap', by rw [rowV_len], fun b' hb' => by cases hb'; exact hlt, fun _ => ⟨rfl, rfl⟩, by rw [rowV_len]; exact h2, h3, fun j u hj => ?_⟩
  have hjn : j < n := by have := (List.getElem?_eq_some_iff.1 hj).1; rwa [rowV_len] at this
  rw [Addr.add_lit, Nat.zero_add, hc j hjn]
  rw [rowV_get n f hjn] at hj
  exact hj

def fillV (f : Nat → Bool) (i k : Nat) (v : Bool) : Nat → Bool := fun j => if i ≤ j ∧ j < i + k then v else f j
theorem fillV_zero (f : Nat → Bool) (i : Nat) (v : Bool) : fillV f i 0 v = f := by funext j; unfold fillV; rw [if_neg (by omega)]
theorem fillV_succ (f : Nat → Bool) (i x : Nat) (v : Bool) : upd (fillV f i x v) (i + x) v = fillV f i (x + 1) v := by
  funext j; unfold upd fillV
  by_cases h : j = i + x
  · rw [if_pos h, if_pos (by omega)]
  · rw [if_neg h]
    by_cases h2 : i ≤ j ∧ j < i + x
    · rw [if_pos h2, if_pos (by omega)]
    · rw [if_neg h2, if_neg (by omega)]
theorem fillV_true (f : Nat → Bool) (i k : Nat) : fillV f i k true = fill f i k := rfl
theorem fillV_one (f : Nat → Bool) (i : Nat) (v : Bool) : fillV f i 1 v = upd f i v := by
  have := fillV_succ f i 0 v
  rw [fillV_zero, Nat.add_zero] at this
  exact this.symm

def RetRow (n : Nat) (f : Nat → Bool) (w : World) : Ending → World → Prop := fun e w' =>
  ∃ v b, e = .returned v ∧ RowAt w' v b n f ∧ w.heap.size ≤ b ∧ Keeps nowhere w w'

set_option maxHeartbeats 1000000 in
theorem put9_any (v : Value) (b n i k : Nat) (x : Bool) (f : Nat → Bool) (w : World) (hr : RowAt w v b n f) (h1 : 1 ≤ n) (hn : n ≤ 65536) (hik : i + k ≤ n) :
    Calls Try.prog 43 #[v, .int .i64 i, .int .i64 k, .bool x] w (RetRow n (fillV f i k x) w) := by
  have hrd := hr.rd
  have hl := rowV_len n f
  obtain ⟨cap, rfl, -, -⟩ := hr.cells
  clear hr
  obtain ⟨i0, hi, hz0, hz1, hz2⟩ := info_parts infoBool
  have hrd' : Rd (w.alloc (.cells #[] 4)) (.slice (some ⟨b, 0, none⟩) n cap) (some b) (rowV n f) := hrd.keep ((Keeps.refl nowhere w).alloc _) (fun _ _ h => h)
  have hone : ∀ u ∈ rowV n f, u.oneCell' = true := by
    intro u hu
    obtain ⟨j, _, rfl⟩ := List.mem_map.1 hu
    rfl
  go_enter Try.func43, Try.ntmps43
  go_wp2_with (at_builtin; refine wpList_append_rd _ rfl _ _ 74 rfl w.heap.size 4 i0 (.bool false) 1 Try.underlying74 hi hz0 hz1 hz2 rfl _ 0 [] rfl (World.ownsRow_made w #[] 0 (Nat.le_refl _) (Nat.zero_le _) rfl) _ (some b) (rowV n f) rfl hrd' hone (by rw [hl]; unfold maxLen; omega) (by rw [hl]; omega) (by simp) ?_)
  intro v1 w1 hown hgrow hfrom
  obtain ⟨b1, cap1, rfl⟩ : ∃ g cap, v1 = .slice (some ⟨g, 0, none⟩) n cap := by
    rcases hown.2 with ⟨_, h0⟩ | ⟨g, cap, cur, rfl, _⟩
    · omega
    · exact ⟨g, cap, rfl⟩
  obtain ⟨rest, hb1, h3, h4, h5⟩ := own_blk hown
  have hk1 : Keeps nowhere w w1 := (((Keeps.refl nowhere w).alloc _).grown hgrow (fun b hb hl => by simp [Value.ownBlock] at hb; omega))
  clear hown hgrow hfrom hrd hrd' hone
  have Hb1 := Lib.hid hb1
  have Hk1 := Lib.hid hk1
  have H3 := Lib.hid h3
  have H4 := Lib.hid h4
  have H5 := Lib.hid h5
  have Hl := Lib.hid hl
  clear hb1 hk1 h3 h4 h5 hl
  go_wp2_with fail
  go_loopw [10] (fun iv wr => ∃ y : Nat, iv = .int .i64 y ∧ y ≤ k ∧ Blk wr b1 4 (rowV n (fillV f i y x) ++ rest).toArray ∧ Keeps nowhere w wr) (fun iv _ => k - (intOf iv).toNat)
  case atStart => exact ⟨0, rfl, Nat.zero_le _, by rw [fillV_zero]; exact Hb1.out, Hk1.out⟩
  case round =>
    obtain ⟨y, rfl, hy, hbr, hkr⟩ := hrel
    by_cases hlt : y < k
    · have hltI : (y : Int) < k := by omega
      have hw1 : IntKind.i64.wrap ((i : Int) + y) = i + y := IntWalk.i64_in _ (by omega)
      have hw2 : IntKind.i64.wrap ((y : Int) + 1) = y + 1 := IntWalk.i64_in _ (by omega)
      have hix0 : (0 : Int) ≤ i + y := by omega
      have hix1 : (i : Int) + y < n := by omega
      have hix2 : ((i : Int) + y).toNat = i + y := by omega
      have hc := hbr.cell (i + y)
      rw [List.getElem?_toArray, List.getElem?_append_left (by rw [rowV_len]; omega), rowV_get n _ (by omega)] at hc
      have hf := hbr.frozen (i + y)
      have hbs := hbr.set_ (i + y) (.bool x)
      rw [List.setIfInBounds_toArray, List.set_append_left _ _ (by rw [rowV_len]; omega), ← rowV_upd, fillV_succ] at hbs
      have hks := hkr.setCell (p := ⟨b1, i + y, none⟩) (fun h => absurd h (by simpa using H5.out)) (.bool x)
      clear hbr hkr
      have Hbs := Lib.hid hbs
      have Hks := Lib.hid hks
      clear hbs hks
      go_wp2_with fail
      go_roundw
      case rel => exact ⟨y + 1, by simp, by omega, Hbs.out, Hks.out⟩
      case measure => simp [intOf]; omega
    · obtain rfl : y = k := by omega
      have Hbr := Lib.hid hbr
      have Hkr := Lib.hid hkr
      clear hbr hkr
      go_wp2_with fail
      go_ret
      exact ⟨_, b1, rfl, ⟨cap1, rest, rfl, Hbr.out, H3.out, H4.out⟩, H5.out, Hkr.out⟩
end Go.Proofs.Ytbckbnmpeedodaa
