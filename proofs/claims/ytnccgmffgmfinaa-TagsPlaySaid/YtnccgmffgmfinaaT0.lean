/-
  tag: rows of tags and of waits; slices.Index, Contains, Clone, Clip, IndexFunc at them.
-/
import Derived.Test.YtnccgmffgmfinaaRec2
import Derived.Shelf.Abstract
namespace Go.Proofs.Ytnccgmffgmfinaa
open Go.RowKit Go.Shelf

def uU (x : Nat) : Value := .int .u16 x
def recU : RecT Nat := ⟨43, 1, fun x => [.int .u16 x], fun _ => rfl, fun _ u hu => by rw [List.mem_singleton.1 hu]; rfl, by decide⟩
def recW : RecT (Nat × Nat) := ⟨96, 2, fun x => [.int .u16 x.1, .int .u16 x.2], fun _ => rfl, fun _ u hu => by simp at hu; rcases hu with rfl | rfl <;> rfl, by decide⟩
def uW (x : Nat × Nat) : Value := .agg #[.int .u16 x.1, .int .u16 x.2]
theorem infoU16 : (Try.prog.info? 43).map (fun i => (i.zero, i.size, i.bytes)) = some (some (.int .u16 0), 1, 2) := by kernel_rfl
theorem infoWt : (Try.prog.info? 96).map (fun i => (i.zero, i.size, i.bytes)) = some (some (.agg #[.int .u16 0, .int .u16 0]), 2, 4) := by kernel_rfl
theorem atU {w : World} {b a x : Nat} (h : recU.At w b a x) : w.cell? ⟨b, a, none⟩ = some (.int .u16 x) := h 0 (by decide)
theorem atW {w : World} {b a : Nat} {x : Nat × Nat} (h : recW.At w b a x) : w.cell? ⟨b, a, none⟩ = some (.int .u16 x.1) ∧ w.cell? ⟨b, a + 1, none⟩ = some (.int .u16 x.2) := ⟨h 0 (by decide), h 1 (by decide)⟩

set_option maxHeartbeats 1000000 in
theorem uindex_any (v : Value) (gb : Option Nat) (l : List Nat) (x : Nat) (w : World) (hr : recU.Rd w v gb l) (hl : l.length ≤ 9223372036854775807) :
    Calls Try.prog 68 #[v, .int .u16 x] w (RetInt (idxR (fun y => y == x) l) w) := by
  obtain ⟨A, cap, rfl, h1, h2, hu, h3, -⟩ := hr
  obtain ⟨L, hL⟩ : ∃ L, L = l.length := ⟨_, rfl⟩
  rw [← hL] at hl ⊢
  have H3 := Lib.hid h3
  have Hu := Lib.hid hu
  have HL := Lib.hid hL
  clear h3 hu hL
  go_enter Try.func68, Try.ntmps68
  go_wp2_with fail
  go_loopw [8] (fun iv wr => ∃ i : Nat, iv = .int .i64 i ∧ i ≤ L ∧ Keeps nowhere w wr ∧ ∀ j t, j < i → l[j]? = some t → (t == x) = false) (fun iv _ => L - (intOf iv).toNat)
  case atStart => exact ⟨0, rfl, Nat.zero_le _, Keeps.refl _ _, fun j t hj => absurd hj (by omega)⟩
  case round =>
    obtain ⟨i, rfl, hi, hk, hno⟩ := hrel
    by_cases hlt : i < L
    · have hltI : (i : Int) < L := by omega
      have hi0 : (0 : Int) ≤ (i : Int) := by omega
      have hi1 : IntKind.i64.wrap ((i : Int) + 1) = i + 1 := IntWalk.i64_in _ (by omega)
      obtain ⟨b, off, rfl, hg, hc⟩ := H3.out (by rw [← HL.out]; omega)
      have hil : i < l.length := by rw [← HL.out]; exact hlt
      obtain ⟨t, ht⟩ : ∃ t, l[i]? = some t := ⟨_, List.getElem?_eq_getElem hil⟩
      have hj := atU ((hc i _ ht).keep hk (Hu.out b hg) (fun h => h))
      rw [show i * recU.n = i from Nat.mul_one i] at hj
      clear hc
      by_cases hx : t = x
      · have hxe : ((x : Int) == (t : Int)) = true := by simp [hx]
        have hidx : idxR (fun y => y == x) l = i := idxR_some hil (by rw [(List.getElem?_eq_some_iff.1 ht).2]; simpa using hx) (fun j hj => hno j _ hj (List.getElem?_eq_getElem (by omega)))
        have Hk := Lib.hid hk
        have Hno := Lib.hid hno
        have Hidx := Lib.hid hidx
        have Ht := Lib.hid ht
        have Hg := Lib.hid hg
        have Hil := Lib.hid hil
        have Hx := Lib.hid hx
        clear hk hno hidx ht hg hil hx
        go_wp2_with fail
        go_ret
        exact ⟨by rw [Hidx.out]; rfl, Hk.out⟩
      · have hxe : ((x : Int) == (t : Int)) = false := by simp; omega
        have Hk := Lib.hid hk
        have Hno := Lib.hid hno
        have Ht := Lib.hid ht
        have Hg := Lib.hid hg
        have Hil := Lib.hid hil
        have Hx := Lib.hid hx
        clear hk hno ht hg hil hx
        go_wp2_with fail
        go_roundw
        case rel => exact ⟨i + 1, by simp, by omega, Hk.out, fun j t' hj htj => by
          by_cases e : j = i
          · subst e; rw [Ht.out] at htj; injection htj with htj; rw [← htj]; simpa using Hx.out
          · exact Hno.out j t' (by omega) htj⟩
        case measure => simp [intOf]; omega
    · obtain rfl : i = L := by omega
      have hidx : idxR (fun y => y == x) l = -1 := idxR_none (fun t ht => by
        obtain ⟨j, hj, rfl⟩ := List.getElem_of_mem ht
        exact hno j _ (by rw [HL.out]; exact hj) (List.getElem?_eq_getElem hj))
      have Hk := Lib.hid hk
      have Hno := Lib.hid hno
      have Hidx := Lib.hid hidx
      clear hk hno hidx
      go_wp2_with fail
      go_ret
      exact ⟨by rw [Hidx.out]; rfl, Hk.out⟩

theorem ucontains_any (v : Value) (gb : Option Nat) (l : List Nat) (x : Nat) (w : World) (hr : recU.Rd w v gb l) (hl : l.length ≤ 9223372036854775807) :
    Calls Try.prog 58 #[v, .int .u16 x] w (RetBool (l.contains x) w) := by
  have hI := uindex_any v gb l x w hr hl
  rw [show l.contains x = l.any (fun y => y == x) by rw [List.contains_eq_any_beq]; congr 1; funext y; exact Bool.beq_comm .. , ← idxR_any]
  clear hr
  have HI := Lib.hid hI
  clear hI
  go_enter Try.func58, Try.ntmps58
  go_wp2_with fail
  refine HI.out.mono ?_
  rintro e w1 ⟨rfl, hk1⟩
  have Hk1 := Lib.hid hk1
  clear hk1
  go_wp2_with fail
  go_ret
  exact ⟨rfl, Hk1.out⟩

set_option maxHeartbeats 1000000 in
theorem u_index (g : Nat) (lb : Array Value) (p : Nat → Bool) (eg : ∀ args w, (callFunc g args).run Try.prog w = .ok (.enter g args) w) (v : Value) (gb : Option Nat) (l : List (Nat)) (w : World) (b0 : Nat)
    (hr : recU.Rd w v gb l) (hl : l.length ≤ 9223372036854775807) (hp : PredR uU g lb p b0 w) :
    Calls Try.prog 66 #[v, .func (.func g) #[] lb] w (RetInt (idxR p l) w) := by
  obtain ⟨A, cap, rfl, h1, h2, hu, h3, -⟩ := hr
  obtain ⟨L, hL⟩ : ∃ L, L = l.length := ⟨_, rfl⟩
  rw [← hL] at hl ⊢
  have H3 := Lib.hid h3
  have Hu := Lib.hid hu
  have Hp := Lib.hid hp
  have HL := Lib.hid hL
  clear h3 hu hp hL
  go_enter Try.func66, Try.ntmps66
  go_wp2_with fail
  go_loopw [8] (fun iv wr => ∃ i : Nat, iv = .int .i64 i ∧ i ≤ L ∧ Keeps nowhere w wr ∧ ∀ j t, j < i → l[j]? = some t → p t = false) (fun iv _ => L - (intOf iv).toNat)
  case atStart => exact ⟨0, rfl, Nat.zero_le _, Keeps.refl _ _, fun j t hj => absurd hj (by omega)⟩
  case round =>
    obtain ⟨i, rfl, hi, hk, hno⟩ := hrel
    by_cases hlt : i < L
    · have hltI : (i : Int) < L := by omega
      have hi0 : (0 : Int) ≤ (i : Int) := by omega
      have hi1 : IntKind.i64.wrap ((i : Int) + 1) = i + 1 := IntWalk.i64_in _ (by omega)
      obtain ⟨b, off, rfl, hg, hc⟩ := H3.out (by rw [← HL.out]; omega)
      have hil : i < l.length := by rw [← HL.out]; exact hlt
      obtain ⟨t, ht⟩ : ∃ t, l[i]? = some t := ⟨_, List.getElem?_eq_getElem hil⟩
      have hj := (hc i _ ht).keep hk (Hu.out b hg) (fun h => h)
      have hcall := Hp.out wr t (hk.mono (fun _ _ h => h.elim))
      clear hc
      have d0 := atU hj
      rw [show i * recU.n = i from Nat.mul_one i] at d0
      clear hj
      unfold uU at hcall
      cases hpt : p t with
      | true =>
        rw [hpt] at hcall
        have hidx : idxR p l = i := idxR_some hil (by rw [(List.getElem?_eq_some_iff.1 ht).2]; exact hpt) (fun j hj => hno j _ hj (List.getElem?_eq_getElem (by omega)))
        have Hk := Lib.hid hk
        have Hno := Lib.hid hno
        have Hidx := Lib.hid hidx
        have Ht := Lib.hid ht
        have Hcall := Lib.hid hcall
        have Hg := Lib.hid hg
        have Hil := Lib.hid hil
        clear hk hno hidx ht hcall hg hil
        go_wp2_with fail
        refine Hcall.out.mono ?_
        rintro e w1 ⟨rfl, hk1⟩
        have hk2 := Hk.out.more hk1
        clear hk1
        have Hk2 := Lib.hid hk2
        clear hk2
        go_wp2_with fail
        go_ret
        exact ⟨by rw [Hidx.out]; rfl, Hk2.out⟩
      | false =>
        rw [hpt] at hcall
        have Hk := Lib.hid hk
        have Hno := Lib.hid hno
        have Ht := Lib.hid ht
        have Hcall := Lib.hid hcall
        have Hg := Lib.hid hg
        have Hil := Lib.hid hil
        clear hk hno ht hcall hg hil
        go_wp2_with fail
        refine Hcall.out.mono ?_
        rintro e w1 ⟨rfl, hk1⟩
        have hk2 := Hk.out.more hk1
        clear hk1
        have Hk2 := Lib.hid hk2
        clear hk2
        go_wp2_with fail
        go_roundw
        case rel => exact ⟨i + 1, by simp, by omega, Hk2.out, fun j t' hj htj => by
          by_cases e : j = i
          · subst e; rw [Ht.out] at htj; injection htj with htj; rw [← htj]; exact hpt
          · exact Hno.out j t' (by omega) htj⟩
        case measure => simp [intOf]; omega
    · obtain rfl : i = L := by omega
      have hidx : idxR p l = -1 := idxR_none (fun t ht => by
        obtain ⟨j, hj, rfl⟩ := List.getElem_of_mem ht
        exact hno j _ (by rw [HL.out]; exact hj) (List.getElem?_eq_getElem hj))
      have Hk := Lib.hid hk
      have Hno := Lib.hid hno
      have Hidx := Lib.hid hidx
      clear hk hno hidx
      go_wp2_with fail
      go_ret
      exact ⟨by rw [Hidx.out]; rfl, Hk.out⟩

set_option maxHeartbeats 1000000 in
theorem wt_index (g : Nat) (lb : Array Value) (p : Nat × Nat → Bool) (eg : ∀ args w, (callFunc g args).run Try.prog w = .ok (.enter g args) w) (v : Value) (gb : Option Nat) (l : List (Nat × Nat)) (w : World) (b0 : Nat)
    (hr : recW.Rd w v gb l) (hl : l.length ≤ 9223372036854775807) (hp : PredR uW g lb p b0 w) :
    Calls Try.prog 67 #[v, .func (.func g) #[] lb] w (RetInt (idxR p l) w) := by
  obtain ⟨A, cap, rfl, h1, h2, hu, h3, -⟩ := hr
  obtain ⟨L, hL⟩ : ∃ L, L = l.length := ⟨_, rfl⟩
  rw [← hL] at hl ⊢
  have H3 := Lib.hid h3
  have Hu := Lib.hid hu
  have Hp := Lib.hid hp
  have HL := Lib.hid hL
  clear h3 hu hp hL
  go_enter Try.func67, Try.ntmps67
  go_wp2_with fail
  go_loopw [8] (fun iv wr => ∃ i : Nat, iv = .int .i64 i ∧ i ≤ L ∧ Keeps nowhere w wr ∧ ∀ j t, j < i → l[j]? = some t → p t = false) (fun iv _ => L - (intOf iv).toNat)
  case atStart => exact ⟨0, rfl, Nat.zero_le _, Keeps.refl _ _, fun j t hj => absurd hj (by omega)⟩
  case round =>
    obtain ⟨i, rfl, hi, hk, hno⟩ := hrel
    by_cases hlt : i < L
    · have hltI : (i : Int) < L := by omega
      have hi0 : (0 : Int) ≤ (i : Int) := by omega
      have hi1 : IntKind.i64.wrap ((i : Int) + 1) = i + 1 := IntWalk.i64_in _ (by omega)
      obtain ⟨b, off, rfl, hg, hc⟩ := H3.out (by rw [← HL.out]; omega)
      have hil : i < l.length := by rw [← HL.out]; exact hlt
      obtain ⟨t, ht⟩ : ∃ t, l[i]? = some t := ⟨_, List.getElem?_eq_getElem hil⟩
      have hj := (hc i _ ht).keep hk (Hu.out b hg) (fun h => h)
      have hcall := Hp.out wr t (hk.mono (fun _ _ h => h.elim))
      clear hc
      obtain ⟨d0, d1⟩ := atW hj
      rw [show i * recW.n = i * 2 from rfl] at d0 d1
      clear hj
      unfold uW at hcall
      cases hpt : p t with
      | true =>
        rw [hpt] at hcall
        have hidx : idxR p l = i := idxR_some hil (by rw [(List.getElem?_eq_some_iff.1 ht).2]; exact hpt) (fun j hj => hno j _ hj (List.getElem?_eq_getElem (by omega)))
        have Hk := Lib.hid hk
        have Hno := Lib.hid hno
        have Hidx := Lib.hid hidx
        have Ht := Lib.hid ht
        have Hcall := Lib.hid hcall
        have Hg := Lib.hid hg
        have Hil := Lib.hid hil
        clear hk hno hidx ht hcall hg hil
        go_wp2_with fail
        refine Hcall.out.mono ?_
        rintro e w1 ⟨rfl, hk1⟩
        have hk2 := Hk.out.more hk1
        clear hk1
        have Hk2 := Lib.hid hk2
        clear hk2
        go_wp2_with fail
        go_ret
        exact ⟨by rw [Hidx.out]; rfl, Hk2.out⟩
      | false =>
        rw [hpt] at hcall
        have Hk := Lib.hid hk
        have Hno := Lib.hid hno
        have Ht := Lib.hid ht
        have Hcall := Lib.hid hcall
        have Hg := Lib.hid hg
        have Hil := Lib.hid hil
        clear hk hno ht hcall hg hil
        go_wp2_with fail
        refine Hcall.out.mono ?_
        rintro e w1 ⟨rfl, hk1⟩
        have hk2 := Hk.out.more hk1
        clear hk1
        have Hk2 := Lib.hid hk2
        clear hk2
        go_wp2_with fail
        go_roundw
        case rel => exact ⟨i + 1, by simp, by omega, Hk2.out, fun j t' hj htj => by
          by_cases e : j = i
          · subst e; rw [Ht.out] at htj; injection htj with htj; rw [← htj]; exact hpt
          · exact Hno.out j t' (by omega) htj⟩
        case measure => simp [intOf]; omega
    · obtain rfl : i = L := by omega
      have hidx : idxR p l = -1 := idxR_none (fun t ht => by
        obtain ⟨j, hj, rfl⟩ := List.getElem_of_mem ht
        exact hno j _ (by rw [HL.out]; exact hj) (List.getElem?_eq_getElem hj))
      have Hk := Lib.hid hk
      have Hno := Lib.hid hno
      have Hidx := Lib.hid hidx
      clear hk hno hidx
      go_wp2_with fail
      go_ret
      exact ⟨by rw [Hidx.out]; rfl, Hk.out⟩
end Go.Proofs.Ytnccgmffgmfinaa
