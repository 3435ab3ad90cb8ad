/-
  sched: find, Len, New; slices.IndexFunc and ContainsFunc at jobs.
-/
import Derived.Test.YtnccgmffgmfinaaQ0
import Derived.Shelf.Abstract
namespace Go.Proofs.Ytnccgmffgmfinaa
open Go.RowKit Go.Shelf

/-- a predicate that may lay blocks of its own -/
def PredK (g : Nat) (lb : Array Value) (p : J → Bool) (w : World) : Prop :=
  ∀ (W : World) (j : J), Keeps nowhere w W → Calls Try.prog g (#[j.v] ++ lb) W fun e w' => e = .returned (.bool (p j)) ∧ Keeps nowhere W w'

def RetInt (i : Int) (w : World) : Ending → World → Prop := fun e w' => e = .returned (.int .i64 i) ∧ Keeps nowhere w w'
def RetBool (b : Bool) (w : World) : Ending → World → Prop := fun e w' => e = .returned (.bool b) ∧ Keeps nowhere w w'

set_option maxHeartbeats 1000000 in
theorem jindex_any (g : Nat) (lb : Array Value) (p : J → Bool) (eg : ∀ args w, (callFunc g args).run Try.prog w = .ok (.enter g args) w) (v : Value) (gb : Option Nat) (l : List J) (w : World)
    (hr : JRd w v gb l) (hl : l.length ≤ 9223372036854775807) (hp : PredK g lb p w) :
    Calls Try.prog 62 #[v, .func (.func g) #[] lb] w (RetInt (idxP p l) w) := by
  obtain ⟨A, cap, rfl, h1, h2, hu, h3, -⟩ := hr
  obtain ⟨L, hL⟩ : ∃ L, L = l.length := ⟨_, rfl⟩
  rw [← hL] at hl ⊢
  have H3 := Lib.hid h3
  have Hu := Lib.hid hu
  have Hp := Lib.hid hp
  have HL := Lib.hid hL
  clear h3 hu hp hL
  go_enter Try.func62, Try.ntmps62
  go_wp2_with fail
  go_loopw [8] (fun iv wr => ∃ i : Nat, iv = .int .i64 i ∧ i ≤ L ∧ Keeps nowhere w wr ∧ ∀ j t, j < i → l[j]? = some t → p t = false) (fun iv _ => L - (intOf iv).toNat)
  case atStart => exact ⟨0, rfl, Nat.zero_le _, Keeps.refl _ _, fun j t hj => absurd hj (by omega)⟩
  case round =>
    obtain ⟨i, rfl, hi, hk, hno⟩ := hrel
    by_cases hlt : i < L
    · have hltI : (i : Int) < L := by omega
      have hi0 : (0 : Int) ≤ (i : Int) := by omega
      have hi1 : IntKind.i64.wrap ((i : Int) + 1) = i + 1 := IntWalk.i64_in _ (by omega)
      obtain ⟨b, off, rfl, hg, hc⟩ := H3.out (by rw [← HL.out]; omega)
      have hil : i < l.length := by rw [← HL.out]; exact hlt
      obtain ⟨t, ht⟩ : ∃ t, l[i]? = some t := ⟨_, List.getElem?_eq_getElem hil⟩
      have hj := (hc i _ ht).keep hk (Hu.out b hg) (fun h => h)
      have hcall := Hp.out wr t hk
      clear hc
      obtain ⟨d0, d1, d2, d3⟩ := hj
      unfold J.v at hcall
      cases hpt : p t with
      | true =>
        rw [hpt] at hcall
        have hidx : idxP p l = i := idxP_some hil (by rw [(List.getElem?_eq_some_iff.1 ht).2]; exact hpt) (fun j hj => hno j _ hj (List.getElem?_eq_getElem (by omega)))
        have Hk := Lib.hid hk
        have Hno := Lib.hid hno
        have Hidx := Lib.hid hidx
        have Ht := Lib.hid ht
        have Hcall := Lib.hid hcall
        have Hg := Lib.hid hg
        have Hil := Lib.hid hil
        clear hk hno hidx ht hcall hg hil
        go_wp2_with fail
        refine Hcall.out.mono ?_
        rintro e w1 ⟨rfl, hk1⟩
        have hk2 := Hk.out.more hk1
        clear hk1
        have Hk2 := Lib.hid hk2
        clear hk2
        go_wp2_with fail
        go_ret
        exact ⟨by rw [Hidx.out]; rfl, Hk2.out⟩
      | false =>
        rw [hpt] at hcall
        have Hk := Lib.hid hk
        have Hno := Lib.hid hno
        have Ht := Lib.hid ht
        have Hcall := Lib.hid hcall
        have Hg := Lib.hid hg
        have Hil := Lib.hid hil
        clear hk hno ht hcall hg hil
        go_wp2_with fail
        refine Hcall.out.mono ?_
        rintro e w1 ⟨rfl, hk1⟩
        have hk2 := Hk.out.more hk1
        clear hk1
        have Hk2 := Lib.hid hk2
        clear hk2
        go_wp2_with fail
        go_roundw
        case rel => exact ⟨i + 1, by simp, by omega, Hk2.out, fun j t' hj htj => by
          by_cases e : j = i
          · subst e; rw [Ht.out] at htj; injection htj with htj; rw [← htj]; exact hpt
          · exact Hno.out j t' (by omega) htj⟩
        case measure => simp [intOf]; omega
    · obtain rfl : i = L := by omega
      have hidx : idxP p l = -1 := idxP_none (fun t ht => by
        obtain ⟨j, hj, rfl⟩ := List.getElem_of_mem ht
        exact hno j _ (by rw [HL.out]; exact hj) (List.getElem?_eq_getElem hj))
      have Hk := Lib.hid hk
      have Hno := Lib.hid hno
      have Hidx := Lib.hid hidx
      clear hk hno hidx
      go_wp2_with fail
      go_ret
      exact ⟨by rw [Hidx.out]; rfl, Hk.out⟩

theorem jcontains_any (g : Nat) (lb : Array Value) (p : J → Bool) (eg : ∀ args w, (callFunc g args).run Try.prog w = .ok (.enter g args) w) (v : Value) (gb : Option Nat) (l : List J) (w : World)
    (hr : JRd w v gb l) (hl : l.length ≤ 9223372036854775807) (hp : PredK g lb p w) :
    Calls Try.prog 64 #[v, .func (.func g) #[] lb] w (RetBool (l.any p) w) := by
  have hI := jindex_any g lb p eg v gb l w hr hl hp
  rw [← idxP_any]
  clear hr hp
  have HI := Lib.hid hI
  clear hI
  go_enter Try.func64, Try.ntmps64
  go_wp2_with fail
  refine HI.out.mono ?_
  rintro e w1 ⟨rfl, hk1⟩
  have Hk1 := Lib.hid hk1
  clear hk1
  go_wp2_with fail
  go_ret
  exact ⟨rfl, Hk1.out⟩

/-- The queue at `p` holds the jobs `l`; `g`: the block of its slice, if any. -/
def QAt (w : World) (p : Nat) (g : Option Nat) (l : List J) : Prop := ∃ v, Blk w p 83 #[v] ∧ JRow w v l ∧ g = v.ownBlock
theorem QAt.keep {S : Nat → Prop} {w w' : World} {p : Nat} {g : Option Nat} {l : List J} (h : QAt w p g l) (hk : Keeps S w w') (hp : ¬ S p) (hg : ∀ b, g = some b → ¬ S b) : QAt w' p g l := by
  obtain ⟨v, h1, h2, rfl⟩ := h
  exact ⟨v, h1.keep hk hp, h2.keep hk hg, rfl⟩
theorem QAt.same {w w' : World} {p : Nat} {g : Option Nat} {l : List J} (h : QAt w p g l) (hk : Keeps nowhere w w') : QAt w' p g l := h.keep hk (fun h => h) (fun _ _ h => h)
theorem QAt.lt {w : World} {p : Nat} {g : Option Nat} {l : List J} (h : QAt w p g l) : p < w.heap.size ∧ Under w.heap.size g ∧ g ≠ some p := by
  obtain ⟨v, h1, h2, rfl⟩ := h
  refine ⟨h1.lt, fun b hb => (h2.lt b hb).2, own_blk_ne h2 h1 (by decide)⟩
def qp (p : Nat) : Value := .pointer (some ⟨p, 0, none⟩)

theorem qnew_any (w : World) : Calls Try.prog 22 #[] w fun e w' => ∃ p, e = .returned (qp p) ∧ w.heap.size ≤ p ∧ QAt w' p none [] ∧ Keeps nowhere w w' := by
  go_enter Try.func22, Try.ntmps22
  go_wp2_with fail
  go_ret
  exact ⟨w.heap.size, rfl, Nat.le_refl _, ⟨_, Blk.new _ _ _, JRow.nil _, rfl⟩, (Keeps.refl _ _).alloc _⟩

theorem qlen_any (w : World) (p : Nat) (g : Option Nat) (l : List J) (h : QAt w p g l) : Calls Try.prog 30 #[qp p] w fun e w' => e = .returned (.int .i64 l.length) ∧ w = w' := by
  obtain ⟨v, h1, h2, rfl⟩ := h
  obtain ⟨A, cap, rfl, h3, h4, -, -, -⟩ := h2.rd
  have c0 := h1.cell 0
  simp at c0
  clear h1 h2
  unfold qp
  generalize l.length = L at *
  go_enter Try.func30, Try.ntmps30
  go_wp2_with fail
  go_ret
  exact ⟨rfl, rfl⟩

/-- the test of find -/
def isJ (c : Int) (t : Nat) (j : J) : Bool := decide (j.c = c) && decide (j.t = t)
theorem find1_any (c : Int) (t a b : Nat) (w : World) (ha : w.cell? ⟨a, 0, none⟩ = some (.int .i64 c)) (hb : w.cell? ⟨b, 0, none⟩ = some (.int .u16 t)) (hal : a < w.heap.size) (hbl : b < w.heap.size) :
    PredK 63 #[.pointer (some ⟨a, 0, none⟩), .pointer (some ⟨b, 0, none⟩)] (isJ c t) w := fun W j hk => by
  have hk1 := (Keeps.refl nowhere W).alloc (.cells #[.int .i64 j.c, .int .u16 j.t, .int .u16 j.o, .bool j.s] 45)
  have ca := (hk1.cell (p := ⟨a, 0, none⟩) (Nat.lt_of_lt_of_le hal hk.size) (fun h => h)).trans ((hk.cell (p := ⟨a, 0, none⟩) hal (fun h => h)).trans ha)
  have cb := (hk1.cell (p := ⟨b, 0, none⟩) (Nat.lt_of_lt_of_le hbl hk.size) (fun h => h)).trans ((hk.cell (p := ⟨b, 0, none⟩) hbl (fun h => h)).trans hb)
  obtain ⟨jc, jt, jo, js⟩ := j
  show Calls Try.prog _ #[.agg #[.int .i64 jc, .int .u16 jt, .int .u16 jo, .bool js], .pointer (some ⟨a, 0, none⟩), .pointer (some ⟨b, 0, none⟩)] W _
  simp only at ca cb hk1
  have Hk1 := Lib.hid hk1
  have Hk := Lib.hid hk
  clear hk1 hk
  by_cases hc : jc = c
  · have hR : isJ c t ⟨jc, jt, jo, js⟩ = decide (jt = t) := by unfold isJ; simp [hc]
    have hce : (jc == c) = true := by simpa using hc
    have hte : (((jt : Nat) : Int) == (t : Int)) = decide (jt = t) := by
      rw [show (((jt : Nat) : Int) == (t : Int)) = decide (((jt : Nat) : Int) = (t : Int)) from rfl]; exact decide_eq_decide.2 (by omega)
    have HR := Lib.hid hR
    have Hc := Lib.hid hc
    clear hR hc
    go_enter Try.func63, Try.ntmps63
    go_wp2_with fail
    go_ret
    exact ⟨by rw [HR.out]; rfl, Hk1.out⟩
  · have hR : isJ c t ⟨jc, jt, jo, js⟩ = false := by unfold isJ; simp [hc]
    have hce : (jc == c) = false := by simpa using hc
    have HR := Lib.hid hR
    have Hc := Lib.hid hc
    clear hR hc
    go_enter Try.func63, Try.ntmps63
    go_wp2_with fail
    go_ret
    exact ⟨by rw [HR.out]; rfl, Hk1.out⟩

theorem qfind_any (w : World) (p : Nat) (g : Option Nat) (l : List J) (c : Int) (t : Nat) (h : QAt w p g l) (hl : l.length ≤ 9223372036854775807) :
    Calls Try.prog 45 #[qp p, .int .i64 c, .int .u16 t] w (RetInt (idxP (isJ c t) l) w) := by
  have hk := ((Keeps.refl nowhere w).alloc (.cells #[.int .i64 c] 3)).alloc (.cells #[.int .u16 t] 43)
  obtain ⟨v, h1, h2, rfl⟩ := h
  have h3 := h1.keep hk (fun h => h)
  have h4 := (h2.keep hk (fun _ _ h => h)).rd
  have hP := find1_any c t w.heap.size (w.heap.size + 1) ((w.alloc (.cells #[.int .i64 c] 3)).alloc (.cells #[.int .u16 t] 43)) (by simp) (by simp) (by simp; omega) (by simp)
  have eg : ∀ args w, (callFunc 63 args).run Try.prog w = .ok (.enter 63 args) w := enters_of Try.func63 (by kernel_rfl) rfl
  have hI := jindex_any _ _ _ eg v _ l _ h4 hl hP
  have c0 := h3.cell 0
  simp at c0
  clear h1 h2 h3 h4 hP eg
  unfold qp
  have HI := Lib.hid hI
  have Hk := Lib.hid hk
  clear hI hk
  go_enter Try.func45, Try.ntmps45
  go_wp2_with fail
  refine HI.out.mono ?_
  rintro e w1 ⟨rfl, hk1⟩
  have hk2 := Hk.out.more hk1
  clear hk1
  have Hk2 := Lib.hid hk2
  clear hk2
  go_wp2_with fail
  go_ret
  exact ⟨rfl, Hk2.out⟩
end Go.Proofs.Ytnccgmffgmfinaa
