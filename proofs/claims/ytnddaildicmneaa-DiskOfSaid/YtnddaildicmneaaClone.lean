/-
  slices.Clone and slices.Clip at []byte: a copy in memory of the call's own; the same slice without spare room.
-/
import Derived.Test.YtnddaildicmneaaRows
import Derived.Test.YtnddaildicmneaaBase
import Derived.Deep.AppendLies
import Derived.Deep.RegionLaw
import Derived.Lib.Walk
import Derived.WalkSpells
namespace Go.Proofs.Ytnddaildicmneaa
open Go.RowKit

theorem infoU8 : (Try.prog.info? 5).map (fun i => (i.zero, i.size, i.bytes)) = some (some (.int .u8 0), 1, 1) := by kernel_rfl

/-- A slice of bytes that reads as `L`, in memory of the call's own. -/
def RetBytes (w : World) (L : List UInt8) : Ending → World → Prop := fun e w' =>
  ∃ v' g', e = .returned v' ∧ Rd w' v' g' (L.map bv) ∧ Above w.heap.size g' ∧ Keeps nowhere w w'

set_option maxHeartbeats 400000 in
theorem clone_nil (n c : Nat) (w : World) : Calls Try.prog 55 #[.slice none n c] w fun e w' => e = .returned (.slice none 0 0) ∧ w = w' := by
  have q22 := fun (w : World) (a : Option Addr) (n c n' c' : Nat) => Lib.run_eql_slice_nil (P := Try.prog) w 41 5 a n c n' c' Try.underlying41
  go_enter Try.func55, Try.ntmps55
  go_wp2
  go_ret
  exact ⟨rfl, rfl⟩

set_option maxHeartbeats 400000 in
theorem clone_some (a : Addr) (c : Nat) (L : List UInt8) (w : World) (hb : L.length ≤ 140737488351232)
    (hc : ∀ j u, (L.map bv)[j]? = some u → w.cell? (a.add j) = some u) (hlt : 0 < L.length → a.block < w.heap.size) :
    Calls Try.prog 55 #[.slice (some a) L.length c] w (RetBytes w L) := by
  have q22 := fun (w : World) (a : Option Addr) (n c n' c' : Nat) => Lib.run_eql_slice_nil (P := Try.prog) w 41 5 a n c n' c' Try.underlying41
  obtain ⟨i0, hi, hz0, hz1, hz2⟩ := info_parts infoU8
  have Hc := Lib.hid hc
  clear hc
  go_enter Try.func55, Try.ntmps55
  go_wp2_with (at_builtin; refine wpList_append_own _ rfl _ _ 41 rfl w.heap.size 5 i0 (.int .u8 0) 1 1 Try.underlying41 hi hz0 hz1 hz2 rfl (by decide) _ _ _ rfl (World.ownsRow_made w #[] 0 (Nat.le_refl _) (Nat.zero_le _) rfl) a L.length c (L.map bv) rfl ?qc1 ?qc2 ?qc3 ?qc4 ?qc5 ?qc6 ?_)
  case qc1 => simp
  case qc2 =>
    intro j u hj
    have hjn : j < L.length := by have := (List.getElem?_eq_some_iff.1 hj).1; simpa using this
    have := Hc.out j u hj
    rw [World.cell?_alloc_lt w _ _ (by rw [show (a.add j).block = a.block from by unfold Addr.add; split <;> rfl]; exact hlt (by omega))]
    exact this
  case qc3 => exact bv_one L
  case qc4 => unfold maxLen; omega
  case qc5 => omega
  case qc6 => simp
  intro v' w1 hown hgrow hnil
  go_wp2
  go_ret
  have hbel : Below w.heap.size w w1 := ((Below.refl _ w).alloc (Nat.le_refl _) _).grown hgrow (by simp) (by intro k hk; simp [Value.ownBlock] at hk; omega)
  exact ⟨v', v'.ownBlock, rfl, by simpa using Rd.of_own hown, fun b hb => (hown.lt b hb).1, Below.keeps hbel⟩

theorem clone_any (v : Value) (g : Option Nat) (L : List UInt8) (w : World) (hr : Rd w v g (L.map bv)) (hb : L.length ≤ 140737488351232) :
    Calls Try.prog 55 #[v] w (RetBytes w L) := by
  rcases hr with ⟨rfl, _, hL⟩ | ⟨a, cap, rfl, hu, hg, h1, h2, hc⟩
  · have : L = [] := by simpa using hL
    subst this
    refine (clone_nil 0 0 w).mono ?_
    rintro e w' ⟨rfl, rfl⟩
    exact ⟨_, none, rfl, .inl ⟨rfl, rfl, rfl⟩, Above.none _, Keeps.refl _ _⟩
  · rw [List.length_map] at h1 ⊢
    exact clone_some _ cap L w hb hc (fun hp => hu _ (hg (by simpa using hp)).1)

set_option maxHeartbeats 400000 in
theorem clip_any (v : Value) (g : Option Nat) (xs : List Value) (w : World) (hr : Rd w v g xs) :
    Calls Try.prog 60 #[v] w fun e w' => (∃ v', e = .returned v' ∧ Rd w v' g xs) ∧ w = w' := by
  have hm := hr.le
  unfold maxLen at hm
  rcases hr with ⟨rfl, rfl, rfl⟩ | ⟨a, cap, rfl, hb, hg, h1, h2, h3⟩
  · go_enter Try.func60, Try.ntmps60
    go_wp2
    go_ret
    exact ⟨⟨_, rfl, .inl ⟨rfl, rfl, rfl⟩⟩, rfl⟩
  · have hl : xs.length ≤ maxLen := by omega
    obtain ⟨n, hn⟩ : ∃ n, n = xs.length := ⟨_, rfl⟩
    rw [← hn] at h1 hm
    have H3 := Lib.hid h3
    have Hb := Lib.hid hb
    have Hg := Lib.hid hg
    clear h3 hb hg
    rw [← hn]
    have Hn := Lib.hid hn
    clear hn
    go_enter Try.func60, Try.ntmps60
    go_wp2
    go_ret
    refine ⟨⟨_, rfl, ?_⟩, rfl⟩
    have hn := Hn.out
    subst hn
    exact .inr ⟨a, xs.length, by simp, Hb.out, Hg.out, Nat.le_refl _, hl, H3.out⟩
end Go.Proofs.Ytnddaildicmneaa
