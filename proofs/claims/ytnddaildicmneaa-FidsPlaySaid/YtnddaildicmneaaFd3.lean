/-
  fid: a table of the call's own; known; the statement FidsFull, walked.
-/
import Derived.Test.YtnddaildicmneaaFd2
import Derived.Test.YtnddaildicmneaaOpenS
import Derived.BigQuiet
namespace Go.Proofs.Ytnddaildicmneaa
open Go.RowKit Go.Maps

/-- a table that lies in blocks of the call's own; the call began in `w0` -/
structure FOwn (w0 w : World) (p b : Nat) (l : List (Nat × FidV)) : Prop where
  lo : w0.heap.size ≤ p
  lob : w0.heap.size ≤ b
  t : FTab w p b l
  k : Keeps nowhere w0 w
theorem FOwn.aside {w0 w w' : World} {p b b2 : Nat} {l : List (Nat × FidV)} (h : FOwn w0 w p b l) (hk : Keeps (only b2) w w') (h0 : w0.heap.size ≤ b2) (hp : p ≠ b2) (hb : b ≠ b2) : FOwn w0 w' p b l :=
  ⟨h.lo, h.lob, h.t.keep hk hp hb, h.k.fresh hk h0⟩
theorem FOwn.same {w0 w w' : World} {p b : Nat} {l : List (Nat × FidV)} (h : FOwn w0 w p b l) (hk : Keeps nowhere w w') : FOwn w0 w' p b l := ⟨h.lo, h.lob, h.t.same hk, h.k.more hk⟩

theorem own_fnew (w0 w : World) (hk : Keeps nowhere w0 w) : Calls Try.prog 14 #[] w fun e w' => ∃ p b, e = .returned (fp p) ∧ FOwn w0 w' p b [] ∧ Keeps nowhere w w' ∧ w.heap.size ≤ p ∧ w.heap.size ≤ b := by
  refine (fnew_any w).mono ?_
  rintro e w' ⟨p, b, rfl, hp, hb, t, hk'⟩
  have := hk.size
  exact ⟨p, b, rfl, ⟨by omega, by omega, t, hk.more hk'⟩, hk', hp, hb⟩
section
variable {w0 w : World} {p b : Nat} {l : List (Nat × FidV)}
theorem own_fput (x : Nat) (f : FidV) (h : FOwn w0 w p b l) (hx : x < 4294967296) (hl : l.length ≤ 100000) : Calls Try.prog 15 #[fp p, .int .u32 x, f.v] w fun e w' => e = .returned (.int .i64 (putE l x)) ∧ FOwn w0 w' p b (putL l x f) ∧ Keeps (only b) w w' := by
  refine (fput_any w p b l x f h.t hx hl).mono ?_
  rintro e w' ⟨rfl, t, hk⟩
  exact ⟨rfl, ⟨h.lo, h.lob, t, h.k.fresh hk h.lob⟩, hk⟩
theorem own_fset (x : Nat) (f : FidV) (h : FOwn w0 w p b l) (hx : x < 4294967296) (hl : l.length ≤ 100000) : Calls Try.prog 16 #[fp p, .int .u32 x, f.v] w fun e w' => e = .returned (.int .i64 (getE l x)) ∧ FOwn w0 w' p b (setL l x f) ∧ Keeps (only b) w w' := by
  refine (fset_any w p b l x f h.t hx hl).mono ?_
  rintro e w' ⟨rfl, t, hk⟩
  exact ⟨rfl, ⟨h.lo, h.lob, t, h.k.fresh hk h.lob⟩, hk⟩
theorem own_fdrop (x : Nat) (h : FOwn w0 w p b l) (hx : x < 4294967296) (hl : l.length ≤ 100000) : Calls Try.prog 18 #[fp p, .int .u32 x] w fun e w' => e = .returned (.tuple #[(getF l x).v, .int .i64 (getE l x)]) ∧ FOwn w0 w' p b (delM l x) ∧ Keeps (only b) w w' := by
  refine (fdrop_any w p b l x h.t hx hl).mono ?_
  rintro e w' ⟨rfl, t, hk⟩
  exact ⟨rfl, ⟨h.lo, h.lob, t, h.k.fresh hk h.lob⟩, hk⟩
theorem own_fget (x : Nat) (h : FOwn w0 w p b l) (hx : x < 4294967296) : Calls Try.prog 17 #[fp p, .int .u32 x] w fun e w' => e = .returned (.tuple #[(getF l x).v, .int .i64 (getE l x)]) ∧ FOwn w0 w' p b l ∧ Keeps nowhere w w' := by
  refine (fget_any w p b l x h.t hx).mono ?_
  rintro e w' ⟨rfl, hk⟩
  exact ⟨rfl, h.same hk, hk⟩
theorem own_fall (h : FOwn w0 w p b l) (hl : l.length ≤ 100000) : Calls Try.prog 19 #[fp p] w fun e w' => ∃ v gb, e = .returned v ∧ recU4.Rd w' v gb (l.map (·.1)) ∧ FOwn w0 w' p b l ∧ Keeps nowhere w w' := by
  refine (fall_any w p b l h.t hl).mono ?_
  rintro e w' ⟨v, gb, rfl, hr, hk⟩
  exact ⟨v, gb, rfl, hr, h.same hk, hk⟩
end
theorem rdU4_form {w : World} {v : Value} {g : Option Nat} {l : List Nat} (h : recU4.Rd w v g l) : ∃ A c, v = .slice A l.length c := by
  obtain ⟨A, c, hv, -⟩ := h
  exact ⟨A, c, hv⟩
theorem rdU4_at {w : World} {v : Value} {g : Option Nat} {l : List Nat} (h : recU4.Rd w v g l) (hp : 0 < l.length) : ∃ b off c, v = .slice (some ⟨b, off, none⟩) l.length c ∧ g = some b ∧ b < w.heap.size ∧ ∀ (i x : Nat), l[i]? = some x → w.cell? ⟨b, off + i, none⟩ = some (.int .u32 x) := by
  obtain ⟨A, c, rfl, h1, h2, hu, h3, h4⟩ := h
  obtain ⟨b, off, rfl, hg, hc⟩ := h3 hp
  exact ⟨b, off, c, rfl, hg, hu b hg, fun i x hi => by have := atU4 (hc i x hi); rwa [show i * recU4.n = i from Nat.mul_one i] at this⟩

theorem MapAt.ne_cell {w : World} {b : Nat} {l : List (Nat × FidV)} (h : MapAt w b l) {q i : Nat} {v : Value} (hc : w.cell? ⟨q, i, none⟩ = some v) : q ≠ b := by
  rintro rfl
  obtain ⟨⟨es, clock, hb, -⟩, -⟩ := h
  simp [World.cell?, hb] at hc

def fA : FidV := ⟨⟨#[97]⟩, 3, false, 0, 0, 0⟩
def fB : FidV := ⟨⟨#[97]⟩, 3, true, 0, 0, 0⟩
theorem kt20 : putE [] 7 = 0 ∧ putL [] 7 fA = [(7, fA)] ∧ putE [(7, fA)] 7 = 9 ∧ putL [(7, fA)] 7 FidV.zero = [(7, fA)] ∧ getE [(7, fA)] 7 = 0 ∧ setL [(7, fA)] 7 fB = [(7, fB)] ∧
    getE [(7, fB)] 7 = 0 ∧ getF [(7, fB)] 7 = fB ∧ delM [(7, fB)] 7 = [] ∧ getE [] 7 = 8 ∧ getF [] 7 = FidV.zero ∧ putE [] 4294967295 = 1 ∧ putL [] 4294967295 FidV.zero = [] := by
  refine ⟨rfl, rfl, rfl, rfl, rfl, rfl, rfl, rfl, rfl, rfl, rfl, rfl, rfl⟩

def YesF (w : World) : Ending → World → Prop := fun e w' => e = .returned (.bool true) ∧ Keeps nowhere w w'
set_option maxHeartbeats 1000000 in
theorem known20 (w : World) : Calls Try.prog 13 #[] w (YesF w) := by
  obtain ⟨e1, l1, e2, l2, e3, l3, e4, f4, l5, e6, f6, e7, l7⟩ := kt20
  have E1 := Lib.hid e1
  have L1 := Lib.hid l1
  have E2 := Lib.hid e2
  have L2 := Lib.hid l2
  have E3 := Lib.hid e3
  have L3 := Lib.hid l3
  have E4 := Lib.hid e4
  have F4 := Lib.hid f4
  have L5 := Lib.hid l5
  have E6 := Lib.hid e6
  have F6 := Lib.hid f6
  have E7 := Lib.hid e7
  have L7 := Lib.hid l7
  clear e1 l1 e2 l2 e3 l3 e4 f4 l5 e6 f6 e7 l7
  go_enter Try.func13, Try.ntmps13
  go_wp2_with fail
  refine (own_fnew w _ (Keeps.refl _ _)).mono ?_
  rintro e w1 ⟨p, b, rfl, h1, -, -, -⟩
  unfold fp
  have H1 := Lib.hid h1
  clear h1
  go_wp2_with fail
  refine (own_fput 7 fA H1.out (by decide) (by decide)).mono ?_
  rintro e w2 ⟨rfl, h2, -⟩
  rw [E1.out]
  rw [L1.out] at h2
  have H2 := Lib.hid h2
  clear h2
  go_wp2_with fail
  refine (own_fput 7 FidV.zero H2.out (by decide) (by decide)).mono ?_
  rintro e w3 ⟨rfl, h3, -⟩
  rw [E2.out]
  rw [L2.out] at h3
  have H3 := Lib.hid h3
  clear h3
  go_wp2_with fail
  refine (own_fset 7 fB H3.out (by decide) (by decide)).mono ?_
  rintro e w4 ⟨rfl, h4, -⟩
  rw [E3.out]
  rw [L3.out] at h4
  have H4 := Lib.hid h4
  clear h4
  go_wp2_with fail
  refine (own_fget 7 H4.out (by decide)).mono ?_
  rintro e w5 ⟨rfl, h5, -⟩
  rw [E4.out, F4.out]
  simp only [fB, FidV.v]
  have H5 := Lib.hid h5
  clear h5
  have hkx := (Keeps.refl nowhere w5).alloc (.cells fB.cs.toArray 31)
  simp only [fB, FidV.cs] at hkx
  have Hkx := Lib.hid hkx
  clear hkx
  go_wp2_with fail
  refine (own_fall (H5.out.same Hkx.out) (by decide)).mono ?_
  rintro e w6 ⟨v6, gb6, rfl, hr6, h6, hk6⟩
  have hx6 := (Blk.new w5 31 fB.cs.toArray).keep hk6 (fun h => h)
  have hxb : w5.heap.size ≠ b := by have := H5.out.t.lt.2; omega
  obtain ⟨b6, f6, c6, rfl, rfl, hb6, hc6⟩ := rdU4_at hr6 (by decide)
  have hc6' := hc6 0 7 rfl
  have hnb := h6.t.2.ne_cell hc6'
  clear hk6 hr6 hc6
  simp only [List.map_cons, List.map_nil, List.length_cons, List.length_nil, Nat.reduceAdd]
  have H6 := Lib.hid h6
  clear h6
  go_wp2_with fail
  refine (own_fdrop 7 H6.out (by decide) (by decide)).mono ?_
  rintro e w7 ⟨rfl, h7, hk7⟩
  rw [E4.out, F4.out]
  rw [L5.out] at h7
  have hx7 := hx6.keep hk7 hxb
  have hc7 := (hk7.cell (p := ⟨b6, f6 + 0, none⟩) hb6 hnb).trans hc6'
  have hl6 := Nat.lt_of_lt_of_le hb6 hk7.size
  have hlx := Nat.lt_of_lt_of_le hx6.lt hk7.size
  clear hk7 hx6 hc6' hb6
  simp only [fB, FidV.v, FidV.cs] at hx7 ⊢
  have hky := (Keeps.refl nowhere w7).alloc (.cells fB.cs.toArray 31)
  simp only [fB, FidV.cs] at hky
  have H7 := Lib.hid h7
  have Hky := Lib.hid hky
  clear h7 hky
  go_wp2_with fail
  refine (own_fget 7 (H7.out.same Hky.out) (by decide)).mono ?_
  rintro e w8 ⟨rfl, h8, hk8⟩
  rw [E6.out, F6.out]
  have hx8 := (hx7.keep Hky.out (fun h => h)).keep hk8 (fun h => h)
  have hy8 := (Blk.new w7 31 fB.cs.toArray).keep hk8 (fun h => h)
  have hc8 := (hk8.cell (p := ⟨b6, f6 + 0, none⟩) (Nat.lt_of_lt_of_le hl6 Hky.out.size) (fun h => h)).trans ((Hky.out.cell (p := ⟨b6, f6 + 0, none⟩) hl6 (fun h => h)).trans hc7)
  have x0 := hx8.cell 0
  have x1 := hx8.cell 1
  have x2 := hx8.cell 2
  have x3 := hx8.cell 3
  have x4 := hx8.cell 4
  have x5 := hx8.cell 5
  have y0 := hy8.cell 0
  have y1 := hy8.cell 1
  have y2 := hy8.cell 2
  have y3 := hy8.cell 3
  have y4 := hy8.cell 4
  have y5 := hy8.cell 5
  simp only [fB, FidV.cs, List.getElem?_toArray, List.getElem?_cons_zero, List.getElem?_cons_succ] at x0 x1 x2 x3 x4 x5 y0 y1 y2 y3 y4 y5
  have lx := hx8.lt
  have ly := hy8.lt
  rw [Nat.add_zero] at hc8
  have lb : b6 < w8.heap.size := Nat.lt_of_lt_of_le hl6 (Nat.le_trans Hky.out.size hk8.size)
  simp only [FidV.zero, FidV.v]
  clear hx7 hc7 hl6 hlx hx8 hy8 hk8
  have hkz := (Keeps.refl nowhere w8).alloc (.cells FidV.zero.cs.toArray 31)
  simp only [FidV.zero, FidV.cs] at hkz
  have H8 := Lib.hid h8
  have Hkz := Lib.hid hkz
  clear h8 hkz
  go_wp2_with fail
  refine (own_fput 4294967295 FidV.zero (H8.out.same Hkz.out) (by decide) (by decide)).mono ?_
  rintro e w9 ⟨rfl, h9, -⟩
  rw [E7.out]
  have H9 := Lib.hid h9
  clear h9
  go_wp2_with fail
  go_ret
  exact ⟨rfl, H9.out.k⟩
end Go.Proofs.Ytnddaildicmneaa
