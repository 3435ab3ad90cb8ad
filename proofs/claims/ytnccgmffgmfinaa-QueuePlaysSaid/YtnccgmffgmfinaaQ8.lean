/-
  loggialaw25.known: a queue of the call's own.
-/
import Derived.Test.YtnccgmffgmfinaaQ7
namespace Go.Proofs.Ytnccgmffgmfinaa
open Go.RowKit Go.Shelf

/-- a queue that was made since `w0` -/
structure QOwn (w0 w : World) (p : Nat) (g : Option Nat) (l : List J) : Prop where
  q : QAt w p g l
  hp : w0.heap.size ≤ p
  hg : Above w0.heap.size g
  k : Keeps nowhere w0 w
theorem QOwn.same {w0 w w' : World} {p : Nat} {g : Option Nat} {l : List J} (h : QOwn w0 w p g l) (hk : Keeps nowhere w w') : QOwn w0 w' p g l := ⟨h.q.same hk, h.hp, h.hg, h.k.more hk⟩
theorem own_new (w0 w : World) (hk : Keeps nowhere w0 w) : Calls Try.prog 22 #[] w fun e w' => ∃ p, e = .returned (qp p) ∧ QOwn w0 w' p none [] :=
  (qnew_any w).mono fun e w' ⟨p, he, hp, hq, hk1⟩ => ⟨p, he, hq, Nat.le_trans hk.size hp, Above.none _, hk.more hk1⟩
theorem own_put {w0 w : World} {p : Nat} {g : Option Nat} {l : List J} (j : J) (h : QOwn w0 w p g l) (hl : l.length ≤ 512) :
    Calls Try.prog 23 #[qp p, j.v] w fun e w' => e = .returned (.int .i64 (putE l j)) ∧ ∃ g', QOwn w0 w' p g' (putL l j) :=
  (qput_any w p g l j h.q hl).mono fun e w' ⟨he, g', hq, hk, hf⟩ => ⟨he, g', hq, h.hp, h.hg.of_from hf h.k.size, h.k.fresh2 hk h.hp h.hg⟩
theorem own_cut {w0 w : World} {p : Nat} {g : Option Nat} {l : List J} (c : Int) (t : Nat) (h : QOwn w0 w p g l) (hl : l.length ≤ 512) :
    Calls Try.prog 27 #[qp p, .int .i64 c, .int .u16 t] w fun e w' => e = .returned (.bool (l.any (isJ c t))) ∧ QOwn w0 w' p g (cutL l c t) ∧ Keeps (only2 p g) w w' :=
  (qcut_any w p g l c t h.q hl).mono fun e w' ⟨he, hq, hk⟩ => ⟨he, ⟨hq, h.hp, h.hg, h.k.fresh2 hk h.hp h.hg⟩, hk⟩
theorem own_drop {w0 w : World} {p : Nat} {g : Option Nat} {l : List J} (c : Int) (h : QOwn w0 w p g l) (hl : l.length ≤ 512) :
    Calls Try.prog 28 #[qp p, .int .i64 c] w fun e w' => e = .returned (.int .i64 ((l.length : Int) - (dropL l c).length)) ∧ QOwn w0 w' p g (dropL l c) ∧ Keeps (only2 p g) w w' :=
  (qdrop_any w p g l c h.q hl).mono fun e w' ⟨he, hq, hk⟩ => ⟨he, ⟨hq, h.hp, h.hg, h.k.fresh2 hk h.hp h.hg⟩, hk⟩
theorem own_ready {w0 w : World} {p : Nat} {g : Option Nat} {l : List J} (h : QOwn w0 w p g l) (hl : l.length ≤ 512) :
    Calls Try.prog 29 #[qp p] w fun e w' => ∃ v g1, e = .returned v ∧ JRd w' v g1 (readyL l) ∧ (∀ b, g1 = some b → ¬ only2 p g b) ∧ QOwn w0 w' p g l ∧ Keeps nowhere w w' :=
  (qReady_any w p g l h.q hl).mono fun e w' ⟨v, g1, he, hr, ha, hk⟩ => ⟨v, g1, he, hr, fun b hb e => by
    have h1 := ha b hb
    have h2 := h.q.lt
    rcases e with e | e
    · omega
    · have := h2.2.1 b e.symm; omega, h.same hk, hk⟩
/-- what Pick leaves -/
def pickL (l : List J) (i : Int) : List J := match pickJ l i with | some j => cutL l j.c j.t | none => l
def pickV (l : List J) (i : Int) : Value := match pickJ l i with | some j => .tuple #[j.v, .bool true] | none => .tuple #[noJ.v, .bool false]
theorem own_pick {w0 w : World} {p : Nat} {g : Option Nat} {l : List J} (i : Int) (h : QOwn w0 w p g l) (hl : l.length ≤ 512) (hi : i ≤ 9223372036854775807) :
    Calls Try.prog 25 #[qp p, .int .i64 i] w fun e w' => e = .returned (pickV l i) ∧ QOwn w0 w' p g (pickL l i) ∧ Keeps (only2 p g) w w' :=
  (qpick_any w p g l i h.q hl hi).mono fun e w' hr => by
    unfold RetPick at hr
    unfold pickV pickL
    cases hj : pickJ l i with
    | some j =>
      rw [hj] at hr
      exact ⟨hr.1, ⟨hr.2.1, h.hp, h.hg, h.k.fresh2 hr.2.2 h.hp h.hg⟩, hr.2.2⟩
    | none =>
      rw [hj] at hr
      exact ⟨hr.1, ⟨hr.2.1, h.hp, h.hg, h.k.fresh2 hr.2.2 h.hp h.hg⟩, hr.2.2⟩
theorem own_len {w0 w : World} {p : Nat} {g : Option Nat} {l : List J} (h : QOwn w0 w p g l) : Calls Try.prog 30 #[qp p] w fun e w' => e = .returned (.int .i64 l.length) ∧ w = w' := qlen_any w p g l h.q

def YesQ (w : World) : Ending → World → Prop := fun e w' => e = .returned (.bool true) ∧ Keeps nowhere w w'

def a1 : J := ⟨1, 1, 0, false⟩
def a2 : J := ⟨1, 2, 0, false⟩
def a3 : J := ⟨2, 1, 0, false⟩
def a4 : J := ⟨1, 3, 2, true⟩
theorem kq : putE [] a1 = 0 ∧ putL [] a1 = [a1] ∧ putE [a1] a2 = 0 ∧ putL [a1] a2 = [a1, a2] ∧ putE [a1, a2] a3 = 0 ∧ putL [a1, a2] a3 = [a1, a2, a3] ∧ putE [a1, a2, a3] a4 = 0 ∧ putL [a1, a2, a3] a4 = [a1, a2, a3, a4] ∧
    putE [a1, a2, a3, a4] a1 = 7 ∧ putL [a1, a2, a3, a4] a1 = [a1, a2, a3, a4] ∧ readyL [a1, a2, a3, a4] = [a1, a3, a4] ∧ pickJ [a1, a2, a3, a4] 2 = some a4 ∧ cutL [a1, a2, a3, a4] a4.c a4.t = [a1, a2, a3] ∧
    ([a1, a2, a3] : List J).any (isJ 1 2) = true ∧ cutL [a1, a2, a3] 1 2 = [a1, a3] ∧ dropL [a1, a3] 1 = [a3] := by decide
theorem kpv : pickV [a1, a2, a3, a4] 2 = .tuple #[a4.v, .bool true] ∧ pickL [a1, a2, a3, a4] 2 = [a1, a2, a3] := by
  have h := kq.2.2.2.2.2.2.2.2.2.2.2
  unfold pickV pickL
  rw [h.1]
  exact ⟨rfl, h.2.1⟩

set_option maxRecDepth 8000 in
set_option maxHeartbeats 2000000 in
theorem known25 (w : World) : Calls Try.prog 21 #[] w (YesQ w) := by
  obtain ⟨e1, l1, e2, l2, e3, l3, e4, l4, e5, l5, hr, -, -, hcu, hcl, hdl⟩ := kq
  obtain ⟨hpv, hpl⟩ := kpv
  have E1 := Lib.hid e1
  have L1 := Lib.hid l1
  have E2 := Lib.hid e2
  have L2 := Lib.hid l2
  have E3 := Lib.hid e3
  have L3 := Lib.hid l3
  have E4 := Lib.hid e4
  have L4 := Lib.hid l4
  have E5 := Lib.hid e5
  have L5 := Lib.hid l5
  have Hr := Lib.hid hr
  have Hcu := Lib.hid hcu
  have Hcl := Lib.hid hcl
  have Hdl := Lib.hid hdl
  have Hpv := Lib.hid hpv
  have Hpl := Lib.hid hpl
  clear e1 l1 e2 l2 e3 l3 e4 l4 e5 l5 hr hcu hcl hdl hpv hpl
  go_enter Try.func21, Try.ntmps21
  go_wp2_with fail
  refine (own_new w _ (Keeps.refl _ _)).mono ?_
  rintro e w1 ⟨p, rfl, h1⟩
  unfold qp
  have H1 := Lib.hid h1
  clear h1
  go_wp2_with fail
  refine (own_put a1 H1.out (by simp)).mono ?_
  rintro e w2 ⟨rfl, g2, h2⟩
  rw [E1.out]
  rw [L1.out] at h2
  have H2 := Lib.hid h2
  clear h2
  go_wp2_with fail
  refine (own_put a2 H2.out (by simp)).mono ?_
  rintro e w3 ⟨rfl, g3, h3⟩
  rw [E2.out]
  rw [L2.out] at h3
  have H3 := Lib.hid h3
  clear h3
  go_wp2_with fail
  refine (own_put a3 H3.out (by simp)).mono ?_
  rintro e w4 ⟨rfl, g4, h4⟩
  rw [E3.out]
  rw [L3.out] at h4
  have H4 := Lib.hid h4
  clear h4
  go_wp2_with fail
  refine (own_put a4 H4.out (by simp)).mono ?_
  rintro e w5 ⟨rfl, g5, h5⟩
  rw [E4.out]
  rw [L4.out] at h5
  have H5 := Lib.hid h5
  clear h5
  go_wp2_with fail
  refine (own_put a1 H5.out (by simp)).mono ?_
  rintro e w6 ⟨rfl, g6, h6⟩
  rw [E5.out]
  rw [L5.out] at h6
  have H6 := Lib.hid h6
  clear h6
  go_wp2_with fail
  refine (own_ready H6.out (by simp)).mono ?_
  rintro e w7 ⟨v7, g7, rfl, hr7, hn7, h7, hk7⟩
  rw [Hr.out] at hr7
  clear hk7
  have Hr7 := Lib.hid hr7
  have Hn7 := Lib.hid hn7
  have H7 := Lib.hid h7
  clear hr7 hn7 h7
  go_wp2_with fail
  refine (own_pick 2 H7.out (by simp) (by omega)).mono ?_
  rintro e w8 ⟨rfl, h8, hk8⟩
  rw [Hpv.out]
  rw [Hpl.out] at h8
  have hr8 := Hr7.out.keep hk8 Hn7.out
  have hbx := Blk.new w8 45 #[.int .i64 1, .int .u16 3, .int .u16 2, .bool true]
  have h9 := h8.same ((Keeps.refl nowhere w8).alloc (.cells #[.int .i64 1, .int .u16 3, .int .u16 2, .bool true] 45))
  have hr9 := hr8.keep ((Keeps.refl nowhere w8).alloc (.cells #[.int .i64 1, .int .u16 3, .int .u16 2, .bool true] 45)) (fun _ _ h => h)
  obtain ⟨A, cap, rfl, -, -, -, h3r, -⟩ := hr9
  obtain ⟨b, off, rfl, -, hc⟩ := h3r (by simp)
  obtain ⟨d0, -, -, -⟩ := hc 1 a3 rfl
  clear hc h3r hk8 hr8
  simp only [a3, a4, J.v] at d0 ⊢
  have Hbx := Lib.hid hbx
  have H9 := Lib.hid h9
  clear hbx h9
  go_wp2_with fail
  refine (own_cut 1 2 H9.out (by simp)).mono ?_
  rintro e w9 ⟨rfl, h10, -⟩
  rw [Hcu.out]
  rw [Hcl.out] at h10
  have H10 := Lib.hid h10
  clear h10
  go_wp2_with fail
  refine (own_len H10.out).mono ?_
  rintro e w10 ⟨rfl, rfl⟩
  go_wp2_with fail
  refine (own_drop 1 H10.out (by simp)).mono ?_
  rintro e w11 ⟨rfl, h11, -⟩
  rw [Hdl.out]
  have H11 := Lib.hid h11
  clear h11
  go_wp2_with fail
  go_ret
  exact ⟨rfl, H11.out.k⟩
end Go.Proofs.Ytnccgmffgmfinaa
