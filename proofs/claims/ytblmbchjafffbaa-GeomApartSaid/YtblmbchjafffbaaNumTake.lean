/-
  num.In.Take and num.In.Raw: a number, bytes; or an error that stays.
-/
import Derived.Test.YtblmbchjafffbaaNumCut
namespace Go.Proofs.Ytblmbchjafffbaa
open Go.RowKit

/-- what Take does: the value and what is left, the error -/
def takeVal (L : List UInt8) (err n : Int) : Nat := if err = 0 ∧ 1 ≤ n ∧ n ≤ 8 ∧ n ≤ L.length then le (L.take n.toNat) else 0
def takeErr (L : List UInt8) (err n : Int) : Int := if err ≠ 0 then err else if n < 1 ∨ 8 < n then 1 else if L.length < n then 4 else 0
def takeLeft (L : List UInt8) (err n : Int) : List UInt8 := if err = 0 ∧ 1 ≤ n ∧ n ≤ 8 ∧ n ≤ L.length then L.drop n.toNat else L

def RetTake (w : World) (p : Nat) (g : Option Nat) (L : List UInt8) (err n : Int) : Ending → World → Prop := fun e w' =>
  e = .returned (.int .u64 (takeVal L err n)) ∧ InAt w' p g (takeLeft L err n) (takeErr L err n) ∧ Keeps (only p) w w'

set_option maxHeartbeats 400000 in
theorem take_bad (p : Nat) (g : Option Nat) (L : List UInt8) (err n : Int) (w : World) (h : InAt w p g L err) (he : err ≠ 0) :
    Calls Try.prog 59 #[.pointer (some ⟨p, 0, none⟩), .int .i64 n] w (RetTake w p g L err n) := by
  have hfin : RetTake w p g L err n (.returned (.int .u64 0)) w := ⟨by simp [takeVal, he], by simpa [takeLeft, takeErr, he] using h, Keeps.refl _ _⟩
  obtain ⟨v, hb, hr, _⟩ := h
  have hc1 := hb.cell 1
  simp at hc1
  have he' : (err != 0) = true := by simpa using he
  have Hfin := Lib.hid hfin
  clear hr hb he hfin
  go_enter Try.func59, Try.ntmps59
  go_wp2
  go_ret
  exact Hfin.out

set_option maxHeartbeats 400000 in
theorem take_arg (p : Nat) (g : Option Nat) (L : List UInt8) (n : Int) (w : World) (h : InAt w p g L 0) (hn : n < 1 ∨ 8 < n) :
    Calls Try.prog 59 #[.pointer (some ⟨p, 0, none⟩), .int .i64 n] w (RetTake w p g L 0 n) := by
  obtain ⟨v, hb, hr, hg⟩ := h
  have hc1 := hb.cell 1
  simp at hc1
  have hk := (Keeps.refl (only p) w).setCell (p := ⟨p, 1, none⟩) (fun _ => rfl) (.int .i64 1)
  have hfin : RetTake w p g L 0 n (.returned (.int .u64 0)) (w.setCell ⟨p, 1, none⟩ (.int .i64 1)) := by
    refine ⟨?_, ?_, hk⟩
    · rw [takeVal, if_neg (by omega)]; rfl
    · rw [takeLeft, if_neg (by omega), takeErr, if_neg (by simp), if_pos hn]
      exact ⟨v, by simpa using hb.set_ 1 (.int .i64 1), hr.keep hk (fun b hb' e => hg (by rw [hb']; exact congrArg some e)), hg⟩
  have Hfin := Lib.hid hfin
  have Hb := Lib.hid hb
  have hmi : ∀ w, (Instr.makeInterface 25 (.int .i64 1)).run Try.prog w = .ok (.iface 25 (.int .i64 1)) w := fun _ => by kernel_rfl
  clear hr hb hfin hk
  by_cases h1 : n < 1
  all_goals
    try have h8 : (8 : Int) < n := by omega
    go_enter_defers Try.func59, Try.ntmps59
    go_wp2
    refine leaves_cons (f := 63) (args := #[.pointer (some ⟨p, 0, none⟩)]) (by simp) (by simp [go_sem]) ?_
    refine (caught_panic p 1 v 0 [] w Hb.out).mono ?_
    rintro e u' w'' ⟨rfl, rfl, rfl⟩
    simp [Leaves, settle, results, Try.results59, go_sem]
    exact Hfin.out

set_option maxHeartbeats 400000 in
theorem take_short (p : Nat) (g : Option Nat) (L : List UInt8) (n : Int) (w : World) (h : InAt w p g L 0) (h1 : 1 ≤ n) (h8 : n ≤ 8) (hn : L.length < n) :
    Calls Try.prog 59 #[.pointer (some ⟨p, 0, none⟩), .int .i64 n] w (RetTake w p g L 0 n) := by
  have hcut := cut_short p g L 0 n w h hn
  obtain ⟨v, hb, hr, hg⟩ := h
  have hc1 := hb.cell 1
  simp at hc1
  have hk := (Keeps.refl (only p) w).setCell (p := ⟨p, 1, none⟩) (fun _ => rfl) (.int .i64 4)
  have hfin : RetTake w p g L 0 n (.returned (.int .u64 0)) (w.setCell ⟨p, 1, none⟩ (.int .i64 4)) := by
    refine ⟨?_, ?_, hk⟩
    · rw [takeVal, if_neg (by omega)]; rfl
    · rw [takeLeft, if_neg (by omega), takeErr, if_neg (by simp), if_neg (by omega), if_pos hn]
      exact ⟨v, by simpa using hb.set_ 1 (.int .i64 4), hr.keep hk (fun b hb' e => hg (by rw [hb']; exact congrArg some e)), hg⟩
  have Hfin := Lib.hid hfin
  have Hb := Lib.hid hb
  have Hcut := Lib.hid hcut
  clear hr hb hfin hk hcut
  have h1' : ¬ n < 1 := by omega
  have h8' : ¬ (8 : Int) < n := by omega
  go_enter_defers Try.func59, Try.ntmps59
  go_wp2_with fail
  refine Hcut.out.mono ?_
  rintro e w' ⟨rfl, rfl⟩
  refine leaves_cons (f := 63) (args := #[.pointer (some ⟨p, 0, none⟩)]) (by simp) (by simp [go_sem]) ?_
  refine (caught_panic p 4 v 0 [] w Hb.out).mono ?_
  rintro e u' w'' ⟨rfl, rfl, rfl⟩
  simp [Leaves, settle, results, Try.results59, go_sem]
  exact Hfin.out

set_option maxHeartbeats 400000 in
theorem take_ok (p : Nat) (g : Option Nat) (L : List UInt8) (n : Nat) (w : World) (h : InAt w p g L 0) (h1 : 1 ≤ n) (h8 : n ≤ 8) (hn : n ≤ L.length) :
    Calls Try.prog 59 #[.pointer (some ⟨p, 0, none⟩), .int .i64 n] w (RetTake w p g L 0 n) := by
  have hcut := cut_ok p g L 0 n w h hn
  have hc1 : w.cell? ⟨p, 1, none⟩ = some (.int .i64 0) := by
    obtain ⟨v, hb, hr, hg⟩ := h
    simpa using hb.cell 1
  have Hcut := Lib.hid hcut
  clear hcut h
  have h1' : ¬ (n : Int) < 1 := by omega
  have h8' : ¬ (8 : Int) < n := by omega
  go_enter_defers Try.func59, Try.ntmps59
  go_wp2_with fail
  refine Hcut.out.mono ?_
  rintro e w1 ⟨v', rfl, hr, hin, hk⟩
  have Hin := Lib.hid hin
  have Hk := Lib.hid hk
  have hTn : (L.take n).length = n := by simp; omega
  obtain ⟨A, c, rfl, hlc, hcm⟩ := hr.form
  have hlen : ((L.take n).map bv).length = n := by simp; omega
  rw [hlen]
  rw [hlen] at hr
  obtain ⟨T, hT⟩ : ∃ T, T = L.take n := ⟨_, rfl⟩
  rw [← hT] at hr hTn
  have HT := Lib.hid hT
  clear hin hk hlen hlc hT
  obtain ⟨b, off, cap, hv, rfl, _, hl, hm, hc⟩ := hr.plain (by simp [hTn]; omega)
  injection hv with hv1 hv2 hv3
  subst hv1
  clear hv2 hv3
  have Hc := Lib.hid hc
  have HTn := Lib.hid hTn
  clear hc hTn
  go_wp2_with fail
  go_loop [4, 24] (fun x i => ∃ k : Nat, k ≤ n ∧ i = .int .i64 k ∧ x = .int .u64 (le (T.take k))) (fun _ i => n - (intOf i).toNat)
  case atStart => exact ⟨0, Nat.zero_le _, rfl, by simp [le]⟩
  case round =>
    obtain ⟨k, hkn, rfl, rfl⟩ := hrel
    by_cases hlt : k < n
    · have hkT : k < T.length := by rw [HTn.out]; exact hlt
      have hcell : w1.cell? ⟨b, off + k, none⟩ = some (.int .u8 (T[k].toNat : Int)) := Hc.out k _ (get_bv T k hkT)
      have hw8 : IntKind.i64.wrap (8 * (k : Int)) = 8 * k := IntWalk.i64_in _ (by omega)
      have h80 : (0 : Int) ≤ 8 * k := by omega
      have hor := or_byte (le (T.take k)) k T[k] (by omega) (by have := le_lt (T.take k); rwa [show (T.take k).length = k from by simp; omega] at this)
      have hsn : le (T.take (k + 1)) = le (T.take k) + T[k].toNat * 256 ^ k := by
        rw [List.take_succ_eq_append_getElem hkT, le_snoc, show (T.take k).length = k from by simp; omega]
      have Hor := Lib.hid hor
      have Hsn := Lib.hid hsn
      clear hor hsn
      go_wp2_with fail
      refine ⟨⟨k + 1, by omega, by go_num, ?_⟩, by simp [intOf]; omega⟩
      rw [Hor.out, Hsn.out]
    · go_wp2_with fail
      obtain rfl : k = n := by omega
      refine leaves_cons (f := 63) (args := #[.pointer (some ⟨p, 0, none⟩)]) (by simp) (by simp [go_sem]) ?_
      refine (caught_idle p w1).mono ?_
      rintro e u' w'' ⟨rfl, rfl, rfl⟩
      simp [Leaves, settle, results, Try.results59, go_sem]
      have hT := HT.out
      have hfull : T.take k = T := List.take_of_length_le (by rw [HTn.out]; exact Nat.le_refl _)
      rw [hfull]
      refine ⟨?_, ?_, Hk.out⟩
      · rw [takeVal, if_pos (by omega), hT]; simp
      · rw [takeLeft, if_pos (by omega), takeErr, if_neg (by simp), if_neg (by omega), if_neg (by omega)]
        simpa using Hin.out

theorem take_any (p : Nat) (g : Option Nat) (L : List UInt8) (err n : Int) (w : World) (h : InAt w p g L err) :
    Calls Try.prog 59 #[.pointer (some ⟨p, 0, none⟩), .int .i64 n] w (RetTake w p g L err n) := by
  by_cases he : err = 0
  · subst he
    by_cases h1 : n < 1 ∨ 8 < n
    · exact take_arg p g L n w h h1
    · by_cases h2 : L.length < n
      · exact take_short p g L n w h (by omega) (by omega) h2
      · obtain ⟨m, rfl⟩ := Int.eq_ofNat_of_zero_le (show 0 ≤ n by omega)
        exact take_ok p g L m w h (by omega) (by omega) (by omega)
  · exact take_bad p g L err n w h he
end Go.Proofs.Ytblmbchjafffbaa
