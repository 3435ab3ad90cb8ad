/-
  slices.Grow of nil and slices.Concat at []byte: a row of the call's own that reads as all parts, one behind the other. A slice of slices of bytes that reads.
-/
import Derived.Test.YtnddaildicmneaaAppB
import Derived.IntWalk
import Derived.Deep.RegionWith
import Derived.Lib.Hide
import Derived.Lib.Walk
import Derived.Lib.AppendZeros
namespace Go.Proofs.Ytnddaildicmneaa
open Go.RowKit

def RetOwnB (w : World) (L : List UInt8) : Ending → World → Prop := fun e w' =>
  ∃ v, e = .returned v ∧ OwnB w' v L ∧ Above w.heap.size v.ownBlock ∧ Keeps nowhere w w'
/-- Slice values that read as lists of bytes; what they read lies in blocks of `A`. -/
def Parts (w : World) (A : Nat → Prop) (vs : List Value) (Ls : List (List UInt8)) : Prop :=
  vs.length = Ls.length ∧ ∀ (i : Nat) (v : Value) (L : List UInt8), vs[i]? = some v → Ls[i]? = some L → ∃ g, Rd w v g (L.map bv) ∧ ∀ b, g = some b → A b

section
variable {w w' : World} {A B S : Nat → Prop} {vs : List Value} {Ls : List (List UInt8)}
theorem Parts.nil (w : World) (A : Nat → Prop) : Parts w A [] [] := ⟨rfl, fun i v L h => by simp at h⟩
theorem Parts.keep (h : Parts w A vs Ls) (hk : Keeps S w w') (hs : ∀ b, A b → ¬ S b) : Parts w' A vs Ls :=
  ⟨h.1, fun i v L hv hL => let ⟨g, hr, ha⟩ := h.2 i v L hv hL; ⟨g, hr.keep hk fun b hb => hs b (ha b hb), ha⟩⟩
theorem Parts.keep0 (h : Parts w A vs Ls) (hk : Keeps nowhere w w') : Parts w' A vs Ls := h.keep hk fun _ _ h => h
theorem Parts.mono (h : Parts w A vs Ls) (hs : ∀ b, b < w.heap.size → A b → B b) : Parts w B vs Ls :=
  ⟨h.1, fun i v L hv hL => let ⟨g, hr, ha⟩ := h.2 i v L hv hL; ⟨g, hr, fun b hb => hs b (hr.lt b hb) (ha b hb)⟩⟩
theorem Parts.snoc (h : Parts w A vs Ls) {v : Value} {g : Option Nat} {L : List UInt8} (hr : Rd w v g (L.map bv)) (ha : ∀ b, g = some b → A b) : Parts w A (vs ++ [v]) (Ls ++ [L]) := by
  refine ⟨by simp [h.1], fun i v' L' hv hL => ?_⟩
  rw [List.getElem?_append] at hv hL
  rw [← h.1] at hL
  split at hv
  · rename_i hi
    rw [if_pos hi] at hL
    exact h.2 i v' L' hv hL
  · rename_i hi
    rw [if_neg hi] at hL
    have hz : i - vs.length = 0 := by
      have := (List.getElem?_eq_some_iff.1 hv).1
      simp at this
      omega
    rw [hz] at hv hL
    simp at hv hL
    subst hv hL
    exact ⟨g, hr, ha⟩
theorem Parts.append (h : Parts w A vs Ls) {vs' : List Value} {Ls' : List (List UInt8)} (h' : Parts w A vs' Ls') : Parts w A (vs ++ vs') (Ls ++ Ls') := by
  refine ⟨by simp [h.1, h'.1], fun i v' L' hv hL => ?_⟩
  rw [List.getElem?_append] at hv hL
  rw [← h.1] at hL
  split at hv
  · rename_i hi
    rw [if_pos hi] at hL
    exact h.2 i v' L' hv hL
  · rename_i hi
    rw [if_neg hi] at hL
    exact h'.2 _ v' L' hv hL
theorem Parts.at_ (h : Parts w A vs Ls) {i : Nat} (hi : i < vs.length) : ∃ v L g, vs[i]? = some v ∧ Ls[i]? = some L ∧ Rd w v g (L.map bv) ∧ ∀ b, g = some b → A b := by
  have hi' : i < Ls.length := by rw [← h.1]; exact hi
  obtain ⟨g, hr, ha⟩ := h.2 i _ _ (List.getElem?_eq_getElem hi) (List.getElem?_eq_getElem hi')
  exact ⟨_, _, g, List.getElem?_eq_getElem hi, List.getElem?_eq_getElem hi', hr, ha⟩
theorem Parts.two {v1 v2 : Value} {g1 g2 : Option Nat} {L1 L2 : List UInt8} (h1 : Rd w v1 g1 (L1.map bv)) (h2 : Rd w v2 g2 (L2.map bv)) : Parts w (fun _ => True) [v1, v2] [L1, L2] :=
  ((Parts.nil w _).snoc h1 fun _ _ => trivial).snoc h2 fun _ _ => trivial
end

def tot (Ls : List (List UInt8)) : Nat := Ls.flatten.length
theorem tot_take {Ls : List (List UInt8)} {k : Nat} {L : List UInt8} (h : Ls[k]? = some L) : (Ls.take (k + 1)).flatten = (Ls.take k).flatten ++ L := by
  rw [List.take_add_one, h]; simp
theorem tot_le (Ls : List (List UInt8)) (k : Nat) : tot (Ls.take k) ≤ tot Ls := by
  unfold tot
  conv => rhs; rw [← List.take_append_drop k Ls, List.flatten_append, List.length_append]
  omega

set_option maxHeartbeats 400000 in
set_option maxRecDepth 8000 in
theorem grow_nil (n : Nat) (w : World) (hb : n ≤ 1099511627776) :
    Calls Try.prog 83 #[.slice none 0 0, .int .i64 n] w (RetOwnB w []) := by
  have hn0 : ¬ (n : Int) < 0 := by omega
  have hw : IntKind.i64.wrap ((n : Int) - 0) = n := IntWalk.i64_in _ (by omega)
  by_cases h0 : n = 0
  · subst h0
    go_enter Try.func83, Try.ntmps83
    go_wp2
    go_ret
    exact ⟨_, rfl, OwnB.nil _, Above.none _, Keeps.refl _ _⟩
  · obtain ⟨i0, hi, hz0, hz1, hz2⟩ := info_parts infoU8
    have happ := Lib.run_append_nil_zeros (P := Try.prog) w 41 3 41 5 i0 (.int .u8 0) .i64 .i64 Try.underlying41 Try.underlying3 hi hz0 n (by omega) (by omega) (by omega) (by rw [hz2]; omega)
    generalize hcap : grownCap w n 0 5 = cap2 at happ
    have hcaple : cap2 ≤ maxLen := by rw [← hcap]; exact grownCap_le_maxLen w _ 0 5 (by unfold maxLen; omega)
    have hcapge : n ≤ cap2 := by rw [← hcap]; exact grownCap_ge w _ 0 5
    generalize hZ : (Builtin.zeroCells (Value.int .u8 0).cells n ++ Builtin.zeroCells (Value.int .u8 0).cells (cap2 - n)) = Z at happ
    have hZs : Z.size = cap2 := by rw [← hZ]; simp [size_zeroCells, Value.cells]; omega
    have h1 : (0 : Int) < n := by omega
    have hown : OwnB (w.drew.alloc (.cells Z 5)) (.slice (some ⟨w.heap.size, 0, none⟩) 0 cap2) [] := by
      have := World.ownsRow_made (base := 0) (size := 1) w.drew Z cap2 (e := 5) (Nat.zero_le _) hcaple (by omega)
      exact this
    have Hown := Lib.hid hown
    clear hown hcap hZ
    go_enter Try.func83, Try.ntmps83
    go_wp2_with (at_builtin; go_must (refine Lib.wpList_append_run _ rfl _ _ _ _ rfl _ _ rfl rfl _ _ happ ?_))
    go_ret
    exact ⟨_, rfl, Hown.out, fun b hb => by simp [Value.ownBlock] at hb; omega, ((Keeps.refl nowhere w).alloc _).drew⟩

set_option maxHeartbeats 800000 in
set_option maxRecDepth 8000 in
theorem concat_any (v0 : Value) (g0 : Option Nat) (vs : List Value) (Ls : List (List UInt8)) (A : Nat → Prop) (w : World) (hr : Rd w v0 g0 vs) (hp : Parts w A vs Ls) (h0 : 0 < vs.length) (hb : tot Ls ≤ 1099511627776) :
    Calls Try.prog 64 #[v0] w (RetOwnB w Ls.flatten) := by
  have hx : ∀ k, k < vs.length → ∃ v L g, vs[k]? = some v ∧ Ls[k]? = some L ∧ Rd w v g (L.map bv) ∧ (Ls.take (k + 1)).flatten = (Ls.take k).flatten ++ L := fun k hk => by
    obtain ⟨v, L, g, h1, h2, h3, _⟩ := hp.at_ hk
    exact ⟨v, L, g, h1, h2, h3, tot_take h2⟩
  obtain ⟨b0, o0, c0, rfl, rfl, hlt, hl, hm, hc⟩ := hr.plain h0
  have hvl := hp.1
  have hm' : vs.length ≤ maxLen := by omega
  unfold maxLen at hm'
  obtain ⟨n, hn⟩ : ∃ n, n = vs.length := ⟨_, rfl⟩
  rw [← hn] at hm' hx h0
  rw [← hn]
  have Hr := Lib.hid hr
  have Hp := Lib.hid hp
  have Hx := Lib.hid hx
  have Hc := Lib.hid hc
  have Hl := Lib.hid hl
  have Hm := Lib.hid hm
  have Hn := Lib.hid hn
  have Hlt := Lib.hid hlt
  have Hvl := Lib.hid hvl
  clear hr hp hx hc hl hm hn hlt hvl
  go_enter Try.func64, Try.ntmps64
  go_wp2_with fail
  go_loop [3, 11] (fun s i => ∃ k : Nat, k ≤ n ∧ i = .int .i64 k ∧ s = .int .i64 (tot (Ls.take k) : Nat)) (fun _ i => n - (intOf i).toNat)
  case atStart => exact ⟨0, Nat.zero_le _, rfl, by simp [tot]⟩
  case round =>
    obtain ⟨k, hk, rfl, rfl⟩ := hrel
    by_cases hlt : k < n
    · obtain ⟨v, L, g, h1, h2, h3, h4⟩ := Hx.out k hlt
      have hcell := Hc.out k v h1
      obtain ⟨A', c', rfl, hlc, hcm⟩ := h3.form
      have hle := tot_le Ls (k + 1)
      have h5 : tot (Ls.take (k + 1)) = tot (Ls.take k) + L.length := by unfold tot; rw [h4, List.length_append]
      rw [List.length_map] at *
      have hw : IntKind.i64.wrap ((tot (Ls.take k) : Int) + L.length) = (tot (Ls.take (k + 1)) : Nat) := by rw [h5]; exact IntWalk.i64_in _ (by omega)
      have hw1 : ¬ ((tot (Ls.take (k + 1)) : Nat) : Int) < 0 := by omega
      have H1 := Lib.hid h1
      have H2 := Lib.hid h2
      have H3 := Lib.hid h3
      have H4 := Lib.hid h4
      have H5 := Lib.hid h5
      have Hle := Lib.hid hle
      have Hlc := Lib.hid hlc
      have Hcm := Lib.hid hcm
      clear h1 h2 h3 h4 h5 hle hlc hcm
      go_wp2
      go_roundw
      case rel => exact ⟨k + 1, by omega, by go_num, rfl⟩
      case measure => simp [intOf]; omega
    · obtain rfl : k = n := by omega
      have hall : Ls.take k = Ls := by rw [Hn.out, Hvl.out, List.take_length]
      rw [hall]
      have Hall := Lib.hid hall
      clear hall
      go_wp2_with fail
      refine (grow_nil (tot Ls) _ hb).mono ?_
      rintro e w1 ⟨v1, rfl, hown1, hab1, hk1⟩
      have hs1 := hk1.size
      have Hown1 := Lib.hid hown1
      have Hab1 := Lib.hid hab1
      have Hk1 := Lib.hid hk1
      have Hs1 := Lib.hid hs1
      clear hown1 hab1 hk1 hs1
      go_wp2_with fail
      go_loopw [6, 27] (fun o i wr => ∃ j : Nat, j ≤ k ∧ i = .int .i64 j ∧ OwnB wr o (Ls.take j).flatten ∧ Above w.heap.size o.ownBlock ∧ Keeps nowhere w wr) (fun _ i _ => k - (intOf i).toNat)
      case atStart => exact ⟨0, Nat.zero_le _, rfl, by simpa using Hown1.out, Hab1.out, Hk1.out⟩
      case round =>
        obtain ⟨j, hj, rfl, hown, hab, hkp⟩ := hrel
        by_cases hlt : j < k
        · obtain ⟨v, L, g, h1, h2, h3, h4⟩ := Hx.out j hlt
          have hcell := (hkp.cell (p := ⟨b0, o0 + j, none⟩) Hlt.out (fun h => h)).trans (Hc.out j v h1)
          have h3' := h3.keep hkp (fun _ _ h => h)
          obtain ⟨A', c', rfl, hlc, hcm⟩ := h3.form
          have hle := tot_le Ls (j + 1)
          have h5 : tot (Ls.take (j + 1)) = tot (Ls.take j) + L.length := by unfold tot; rw [h4, List.length_append]
          have h6 : (Ls.take j).flatten.length + L.length ≤ 1099511627776 := by unfold tot at h5 hle hb; omega
          rw [List.length_map] at *
          have Hown := Lib.hid hown
          have Hab := Lib.hid hab
          have Hkp := Lib.hid hkp
          have H1 := Lib.hid h1
          have H2 := Lib.hid h2
          have H3 := Lib.hid h3
          have H3' := Lib.hid h3'
          have H4 := Lib.hid h4
          have H5 := Lib.hid h5
          have H6 := Lib.hid h6
          have Hle := Lib.hid hle
          have Hlc := Lib.hid hlc
          have Hcm := Lib.hid hcm
          clear hown hab hkp h1 h2 h3 h3' h4 h5 h6 hle hlc hcm
          go_wp2_with (at_builtin; go_must (refine wpList_append_bytes rfl (.tmp 31) (.tmp 32) rfl _ _ rfl Hown.out _ g L rfl H3'.out H6.out ?_))
          intro v' w' hown' hk' hf'
          have hab' : Above w.heap.size v'.ownBlock := Hab.out.of_from hf' (by have := Hkp.out.size; omega)
          have hkp' : Keeps nowhere w w' := Hkp.out.trans hk' (fun b hb h => absurd (Hab.out b h) (by omega))
          rw [← H4.out] at hown'
          have Hown' := Lib.hid hown'
          have Hab' := Lib.hid hab'
          have Hkp' := Lib.hid hkp'
          clear hown' hab' hkp'
          clear hk' hf'
          go_wp2_with fail
          go_roundw
          case rel => exact ⟨j + 1, by omega, by go_num, Hown'.out, Hab'.out, Hkp'.out⟩
          case measure => simp [intOf]; omega
        · obtain rfl : j = k := by omega
          rw [Hall.out] at hown
          have Hown := Lib.hid hown
          have Hab := Lib.hid hab
          have Hkp := Lib.hid hkp
          clear hown hab hkp
          go_wp2_with fail
          go_ret
          exact ⟨_, rfl, Hown.out, Hab.out, Hkp.out⟩
end Go.Proofs.Ytnddaildicmneaa
