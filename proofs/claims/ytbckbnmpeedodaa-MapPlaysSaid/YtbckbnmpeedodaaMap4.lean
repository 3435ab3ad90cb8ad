/-
  bitmap.Load.
-/
import Derived.Test.YtbckbnmpeedodaaMap3
namespace Go.Proofs.Ytbckbnmpeedodaa
open Go.RowKit

theorem load_len (v : Value) (gb : Option Nat) (B : List UInt8) (n : Nat) (w : World) (hr : Rd w v gb (B.map bv)) (h1 : 1 ≤ n) (h2 : n ≤ 65536) (hl : ¬ B.length = (n + 7) / 8) :
    Calls Try.prog 34 #[v, .int .i64 n] w (RetLoad B n w) := by
  obtain ⟨A, c, rfl, hlc, hcm⟩ := hr.form
  rw [List.length_map] at *
  clear hr
  have hne : ((B.length : Int) == ((n : Int) + 7) / 8) = false := by simp; omega
  have hne2 : ((B.length : Int) != ((n : Int) + 7) / 8) = true := by simp; omega
  have hno : ¬ FormOk B n := fun h => hl h.1
  obtain ⟨L, hL⟩ : ∃ L, L = B.length := ⟨_, rfl⟩
  rw [← hL] at hne hne2 ⊢
  have Hno := Lib.hid hno
  have HL := Lib.hid hL
  clear hno hL
  go_enter Try.func34, Try.ntmps34
  go_wp2_with fail
  refine (new_ok n _ h1 h2).mono ?_
  rintro e w1 ⟨p, g, rfl, hp, hg, hm, hk⟩
  obtain ⟨_, _, hoff, cap, rest, hb1, hb2, h3, h4⟩ := hm
  have c1 := hb1.cell 1
  simp at c1
  clear hb1 hb2 h3 h4 hoff
  unfold mp
  have Hk := Lib.hid hk
  clear hk
  go_wp2_with fail
  go_ret2
  exact .inr ⟨Hno.out, rfl, Hk.out⟩

set_option maxHeartbeats 1000000 in
theorem load_any (v : Value) (gb : Option Nat) (B : List UInt8) (n : Nat) (w : World) (hr : Rd w v gb (B.map bv)) (h1 : 1 ≤ n) (h2 : n ≤ 65536) :
    Calls Try.prog 34 #[v, .int .i64 n] w (RetLoad B n w) := by
  by_cases hl : B.length = (n + 7) / 8
  · have hpos : 0 < (B.map bv).length := by rw [List.length_map]; omega
    obtain ⟨b, off, c, rfl, rfl, hbw, hlc, hcm, hcell⟩ := hr.plain hpos
    rw [List.length_map] at *
    clear hr
    have hne : (((B.length : Nat) : Int) != ((n : Int) + 7) / 8) = false := by simp; omega
    obtain ⟨L, hL⟩ : ∃ L, L = B.length := ⟨_, rfl⟩
    rw [← hL] at hpos hlc hne hl ⊢
    have hw8 : IntKind.i64.wrap (8 * (L : Int)) = 8 * L := IntWalk.i64_in _ (by omega)
    have Hcell := Lib.hid hcell
    have HL := Lib.hid hL
    have Hl := Lib.hid hl
    clear hcell hL hl
    go_enter Try.func34, Try.ntmps34
    go_wp2_with fail
    refine (new_ok n _ h1 h2).mono ?_
    rintro e w1 ⟨p, g, rfl, hp, hg, hm, hk⟩
    have hm0 := hm
    obtain ⟨_, _, hoff, cap, rest, hb1, hb2, h3, h4⟩ := hm
    have c1 := hb1.cell 1
    simp at c1
    clear hb1 hb2 h3 h4 hoff
    unfold mp
    have Hk := Lib.hid hk
    have Hm0 := Lib.hid hm0
    have Hp := Lib.hid hp
    have Hg := Lib.hid hg
    clear hk hm0 hp hg
    go_wp2_with fail
    go_loopw [28] (fun iv wr => ∃ i : Nat, iv = .int .i64 i ∧ i ≤ 8 * L ∧ MapAt wr p g n (part B i) ∧ (∀ j, j < i → n ≤ j → bitF B j = false) ∧ Keeps nowhere w wr) (fun iv _ => 8 * L - (intOf iv).toNat)
    case atStart => exact ⟨0, rfl, Nat.zero_le _, by rw [part_zero]; exact Hm0.out, fun j hj => absurd hj (by omega), Hk.out⟩
    case round =>
      obtain ⟨i, rfl, hi, hm, hno, hkr⟩ := hrel
      by_cases hlt : i < 8 * L
      · have hx0 : i / 8 < B.length := by rw [← HL.out]; omega
        obtain ⟨x, hx⟩ : ∃ x, B[i / 8]? = some x := ⟨B[i / 8], List.getElem?_eq_getElem hx0⟩
        have hcx := (hkr.cell (p := ⟨b, off + i / 8, none⟩) hbw (fun h => h)).trans (Hcell.out (i / 8) (bv x) (by simp [hx]))
        unfold bv at hcx
        have hbit := bit_is x.toNat (i % 8) x.toNat_lt _ (bitF_at hx)
        have hb7 := and7 i (by have := Hl.out; omega)
        have hx8 := x.toNat_lt
        have hk8 : i % 8 < 8 := Nat.mod_lt _ (by omega)
        have hi1 : IntKind.i64.wrap ((i : Int) + 1) = i + 1 := IntWalk.i64_in _ (by have := Hl.out; omega)
        have hlti : (i : Int) < 8 * L := by omega
        obtain ⟨m, hm'⟩ : ∃ m, m = i % 8 := ⟨_, rfl⟩
        rw [← hm'] at hb7 hk8 hbit
        generalize x.toNat = X at *
        have hi63 : (i : Nat) < 9223372036854775808 := by have := Hl.out; omega
        have Hm := Lib.hid hm
        have Hno := Lib.hid hno
        have Hkr := Lib.hid hkr
        have Hx := Lib.hid hx
        have Hm' := Lib.hid hm'
        have Hx0 := Lib.hid hx0
        clear hm hno hkr hx hm' hx0
        cases hf : bitF B i with
        | false =>
          rw [hf] at hbit
          go_wp2_with fail
          go_roundw
          case rel => exact ⟨i + 1, by simp, by omega, by rw [← part_skip hf]; exact Hm.out, fun j hj hn => by
            by_cases e : j = i
            · rw [e]; exact hf
            · exact Hno.out j (by omega) hn, Hkr.out⟩
          case measure => simp [intOf]; omega
        | true =>
          rw [hf] at hbit
          by_cases hin : i < n
          · go_wp2_with fail
            refine (set_any _ p g n _ _ Hm.out).mono ?_
            rintro e w3 ⟨rfl, hm3, hk3⟩
            have hr1 : (inM n (i : Int) && !hasM (part B i) (i : Int)) = true := by
              rw [hasM_nat, show inM n (i : Int) = true from decide_eq_true (by omega)]; simp [part]
            rw [hr1]
            rw [setM_in _ hin, part_set hf] at hm3
            have hk4 := Hkr.out.fresh2 hk3 Hp.out (fun b hb => by cases hb; exact Hg.out)
            clear hk3 hr1
            have Hm3 := Lib.hid hm3
            have Hk4 := Lib.hid hk4
            clear hm3 hk4
            go_wp2_with fail
            go_roundw
            case rel => exact ⟨i + 1, by simp, by omega, Hm3.out, fun j hj hn => by
              by_cases e : j = i
              · omega
              · exact Hno.out j (by omega) hn, Hk4.out⟩
            case measure => simp [intOf]; omega
          · go_wp2_with fail
            refine (set_any _ p g n _ _ Hm.out).mono ?_
            rintro e w3 ⟨rfl, hm3, hk3⟩
            have hr1 : (inM n (i : Int) && !hasM (part B i) (i : Int)) = false := by
              rw [show inM n (i : Int) = false from decide_eq_false (by omega)]; simp
            rw [hr1]
            have hk4 := Hkr.out.fresh2 hk3 Hp.out (fun b hb => by cases hb; exact Hg.out)
            clear hk3 hr1 hm3
            have Hk4 := Lib.hid hk4
            clear hk4
            go_wp2_with fail
            go_ret2
            exact .inr ⟨fun h => absurd (h.2 i (by omega)) (by rw [hf]; simp), rfl, Hk4.out⟩
      · obtain rfl : i = 8 * L := by omega
        have hall := part_all B (8 * L) (by rw [HL.out]; omega)
        rw [hall] at hm
        have hfo : FormOk B n := ⟨by rw [← HL.out]; exact Hl.out, fun j hj => by
          by_cases e : j < 8 * L
          · exact hno j e hj
          · exact bitF_far B j (by rw [← HL.out]; omega)⟩
        have Hm := Lib.hid hm
        have Hkr := Lib.hid hkr
        have Hfo := Lib.hid hfo
        clear hm hkr hfo
        clear hno hall
        go_wp2_with fail
        go_ret2
        exact .inl ⟨Hfo.out, p, g, rfl, Hp.out, Hg.out, Hm.out, Hkr.out⟩
  · exact load_len v gb B n w hr h1 h2 hl
end Go.Proofs.Ytbckbnmpeedodaa
