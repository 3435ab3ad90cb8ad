/-
  What Put writes, whatever the width; the reference's Num.
-/
import Derived.Test.YtblmbchjafffbaaNumTake
import Derived.Test.YtblmbchjafffbaaAppB
import Derived.Deep.RegionWith
namespace Go.Proofs.Ytblmbchjafffbaa
open Go.RowKit

/-- bytes that Put writes -/
def pb (n v : Int) : List UInt8 := if 1 ≤ n ∧ n ≤ 8 then nb n.toNat v.toNat else []
theorem pb_in (n v : Nat) (h1 : 1 ≤ n) (h8 : n ≤ 8) : pb n v = nb n v := by rw [pb, if_pos (by omega)]; simp
theorem pb_len (n v : Int) : (pb n v).length ≤ 8 := by unfold pb; split <;> simp [nb_len]; omega

theorem RetOut.same {p : Nat} {g : Option Nat} {w : World} {L : List UInt8} (ho : OutAt w p g L) : RetOut p g w L (.returned (.tuple #[])) w :=
  ⟨rfl, g, ho, fun _ h => .inl h, Keeps.refl _ _⟩

theorem put_any (p : Nat) (g : Option Nat) (L : List UInt8) (n v : Int) (w : World) (ho : OutAt w p g L) (hv0 : 0 ≤ v) (hv : v < 18446744073709551616) (hb : L.length ≤ 1099511627776) :
    Calls Try.prog 40 #[.pointer (some ⟨p, 0, none⟩), .int .i64 n, .int .u64 v] w (RetOut p g w (L ++ pb n v)) := by
  by_cases hn : 1 ≤ n ∧ n ≤ 8
  · obtain ⟨m, rfl⟩ := Int.eq_ofNat_of_zero_le (show 0 ≤ n by omega)
    obtain ⟨x, rfl⟩ := Int.eq_ofNat_of_zero_le hv0
    rw [pb_in m x (by omega) (by omega)]
    exact out_put p g L m x w ho (by omega) (by omega) (by omega) hb
  · refine (out_put_no p n v w (by omega)).mono ?_
    rintro e w' ⟨rfl, rfl⟩
    rw [pb, if_neg hn, List.append_nil]
    exact RetOut.same ho

/-- A row of bytes of the call's own. -/
def RetOwnB (w : World) (L : List UInt8) : Ending → World → Prop := fun e w' =>
  ∃ v', e = .returned v' ∧ OwnB w' v' L ∧ Above w.heap.size v'.ownBlock ∧ Keeps nowhere w w'

set_option maxHeartbeats 400000 in
theorem ref_num_no (n v : Int) (w : World) (hn : n < 1 ∨ 8 < n) :
    Calls Try.prog 43 #[.int .i64 n, .int .u64 v] w fun e w' => e = .returned (.slice none 0 0) ∧ w = w' := by
  rcases hn with h | h
  · go_enter Try.func43, Try.ntmps43
    go_wp2
    go_ret
    exact ⟨rfl, rfl⟩
  · have h' : ¬ n < 1 := by omega
    go_enter Try.func43, Try.ntmps43
    go_wp2
    go_ret
    exact ⟨rfl, rfl⟩

set_option maxHeartbeats 800000 in
theorem ref_num_yes (n v : Nat) (w : World) (h1 : 1 ≤ n) (h8 : n ≤ 8) (hv : v < 18446744073709551616) :
    Calls Try.prog 43 #[.int .i64 n, .int .u64 v] w (RetOwnB w (nb n v)) := by
  have h1' : ¬ (n : Int) < 1 := by omega
  have h8' : ¬ (8 : Int) < n := by omega
  have Hv := Lib.hid hv
  clear hv
  go_enter Try.func43, Try.ntmps43
  go_wp2_with fail
  go_loopw [5, 6] (fun o i wr => ∃ k : Nat, k ≤ n ∧ i = .int .i64 k ∧ OwnB wr o (nb k v) ∧ Above w.heap.size o.ownBlock ∧ Keeps nowhere w wr) (fun _ i _ => n - (intOf i).toNat)
  case atStart => exact ⟨0, Nat.zero_le _, rfl, OwnB.nil _, Above.none _, Keeps.refl _ _⟩
  case round =>
    obtain ⟨k, hk, rfl, hown, hab, hkp⟩ := hrel
    by_cases hlt : k < n
    · have hw8 : IntKind.i64.wrap (8 * (k : Int)) = 8 * k := IntWalk.i64_in _ (by omega)
      have h80 : (0 : Int) ≤ 8 * k := by omega
      have hlen : (nb k v).length = k := nb_len k v
      have Hown := Lib.hid hown
      have Hab := Lib.hid hab
      have Hkp := Lib.hid hkp
      have Hlen := Lib.hid hlen
      clear hown hab hkp hlen
      go_wp2_with (at_builtin; go_must (refine wpList_append_bytes rfl (.tmp 19) (.tmp 26) rfl u5 (nb k v) rfl (Hown.out.keep ((Keeps.refl nowhere wr).alloc _) (fun _ _ h => h)) _ (some wr.heap.size) [UInt8.ofNat (v / 256 ^ k)] rfl ?hr ?hl ?_))
      case hr => show Rd _ (.slice (some ⟨wr.heap.size, 0, none⟩) 1 1) _ _; rw [byte_of']; exact Rd.full (heap_alloc_new wr (.cells #[bv (UInt8.ofNat (v / 256 ^ k))] 5)) (by simp [maxLen])
      case hl => rw [Hlen.out]; simp; omega
      intro v1 w1 hown1 hk1 hf1
      have hs := Hkp.out.size
      have hab1 : Above w.heap.size v1.ownBlock := Hab.out.of_from hf1 (by omega)
      have hkp1 : Keeps nowhere w w1 := (Hkp.out.alloc _).trans hk1 (fun b hb h => absurd (Hab.out b h) (by omega))
      have hsn := nb_succ k v
      have Hown1 := Lib.hid hown1
      have Hab1 := Lib.hid hab1
      have Hkp1 := Lib.hid hkp1
      have Hsn := Lib.hid hsn
      clear hown1 hab1 hkp1 hsn
      clear hk1 hf1
      go_wp2_with fail
      go_roundw
      case rel => exact ⟨k + 1, by omega, by go_num, by rw [Hsn.out]; exact Hown1.out, Hab1.out, Hkp1.out⟩
      case measure => simp [intOf]; omega
    · have Hown := Lib.hid hown
      have Hab := Lib.hid hab
      have Hkp := Lib.hid hkp
      clear hown hab hkp
      obtain rfl : k = n := by omega
      go_wp2_with fail
      go_ret
      exact ⟨_, rfl, Hown.out, Hab.out, Hkp.out⟩

theorem ref_num (n v : Int) (w : World) (hv0 : 0 ≤ v) (hv : v < 18446744073709551616) :
    Calls Try.prog 43 #[.int .i64 n, .int .u64 v] w (RetOwnB w (pb n v)) := by
  by_cases hn : 1 ≤ n ∧ n ≤ 8
  · obtain ⟨m, rfl⟩ := Int.eq_ofNat_of_zero_le (show 0 ≤ n by omega)
    obtain ⟨x, rfl⟩ := Int.eq_ofNat_of_zero_le hv0
    rw [pb_in m x (by omega) (by omega)]
    exact ref_num_yes m x w (by omega) (by omega) (by omega)
  · refine (ref_num_no n v w (by omega)).mono ?_
    rintro e w' ⟨rfl, rfl⟩
    rw [pb, if_neg hn]
    exact ⟨_, rfl, OwnB.nil _, Above.none _, Keeps.refl _ _⟩
end Go.Proofs.Ytblmbchjafffbaa
