/-
  tag: a table of the call's own; what is known.
-/
import Derived.Test.YtnccgmffgmfinaaT4
namespace Go.Proofs.Ytnccgmffgmfinaa
open Go.RowKit Go.Shelf

/-- a table of the call's own -/
structure TOwn (w0 w : World) (p : Nat) (g h : Option Nat) (ts : List Nat) (ws : List (Nat × Nat)) : Prop where
  t : TabAt w p g h ts ws
  hp : w0.heap.size ≤ p
  hg : Above w0.heap.size g
  hh : Above w0.heap.size h
  k : Keeps nowhere w0 w
section
variable {w0 w w' : World} {p : Nat} {g h : Option Nat} {ts : List Nat} {ws : List (Nat × Nat)}
theorem TOwn.same (o : TOwn w0 w p g h ts ws) (hk : Keeps nowhere w w') : TOwn w0 w' p g h ts ws := ⟨o.t.same hk, o.hp, o.hg, o.hh, o.k.more hk⟩
theorem TOwn.fresh (o : TOwn w0 w p g h ts ws) (hk : Keeps (only3 p g h) w w') : Keeps nowhere w0 w' := o.k.trans hk fun b hb e => by
  have := o.hp
  rcases e with e | e | e
  · omega
  · have := o.hg b e.symm; omega
  · have := o.hh b e.symm; omega
theorem TOwn.apart (o : TOwn w0 w p g h ts ws) {x : Option Nat} (hx : Above w.heap.size x) : ∀ b, x = some b → ¬ only3 p g h b := fun b hb e => by
  have h1 := hx b hb
  have h2 := o.t.lt
  rcases e with e | e | e
  · omega
  · have := h2.2.1 b e.symm; omega
  · have := h2.2.2 b e.symm; omega
theorem own_tnew (w0 w : World) (hk : Keeps nowhere w0 w) : Calls Try.prog 32 #[] w fun e w' => ∃ p, e = .returned (tp p) ∧ TOwn w0 w' p none none [] [] :=
  (tnew_any w).mono fun e w' ⟨p, he, hp, ht, hk1⟩ => ⟨p, he, ht, Nat.le_trans hk.size hp, Above.none _, Above.none _, hk.more hk1⟩
theorem own_has (x : Nat) (o : TOwn w0 w p g h ts ws) (hl : ts.length ≤ 100000) : Calls Try.prog 40 #[tp p, .int .u16 x] w fun e w' => e = .returned (.bool (ts.contains x)) ∧ TOwn w0 w' p g h ts ws ∧ Keeps nowhere w w' :=
  (thas_any w p g h ts ws x o.t hl).mono fun e w' ⟨he, hk⟩ => ⟨he, o.same hk, hk⟩
theorem own_ask (x : Nat) (o : TOwn w0 w p g h ts ws) (hl : ts.length ≤ 100000) : Calls Try.prog 34 #[tp p, .int .u16 x] w fun e w' => e = .returned (.int .i64 (askE ts x)) ∧ ∃ g', TOwn w0 w' p g' h (askL ts x) ws ∧ Keeps (only3 p g h) w w' ∧ From g w.heap.size g' :=
  (task_any w p g h ts ws x o.t hl).mono fun e w' ⟨he, g', ht, hk, hf⟩ => ⟨he, g', ⟨ht, o.hp, o.hg.of_from hf o.k.size, o.hh, o.fresh (keep3_2 hk)⟩, keep3_2 hk, hf⟩
theorem own_done (x : Nat) (o : TOwn w0 w p g h ts ws) (hl : ts.length ≤ 100000) (hlw : ws.length ≤ 100000) : Calls Try.prog 35 #[tp p, .int .u16 x] w fun e w' => e = .returned (.bool (ts.contains x)) ∧ TOwn w0 w' p g h (doneA ts x) (doneW ts ws x) ∧ Keeps (only3 p g h) w w' :=
  (tdone_any w p g h ts ws x o.t hl hlw).mono fun e w' ⟨he, ht, hk⟩ => ⟨he, ⟨ht, o.hp, o.hg, o.hh, o.fresh hk⟩, hk⟩
theorem own_tflush (x old : Nat) (o : TOwn w0 w p g h ts ws) (hl : ts.length ≤ 100000) (hlw : ws.length ≤ 100000) : Calls Try.prog 37 #[tp p, .int .u16 x, .int .u16 old] w fun e w' => e = .returned (.int .i64 (flushE ts x)) ∧ ∃ h', TOwn w0 w' p g h' ts (flushW ts ws x old) ∧ Keeps (only3 p g h) w w' ∧ From h w.heap.size h' :=
  (tflush_any w p g h ts ws x old o.t hl hlw).mono fun e w' ⟨he, h', ht, hk, hf⟩ => ⟨he, h', ⟨ht, o.hp, o.hg, o.hh.of_from hf o.k.size, o.fresh hk⟩, hk, hf⟩
theorem own_reset (o : TOwn w0 w p g h ts ws) : Calls Try.prog 38 #[tp p] w fun e w' => e = .returned (.tuple #[]) ∧ TOwn w0 w' p none none [] [] ∧ Keeps (only3 p g h) w w' :=
  (treset_any w p g h ts ws o.t).mono fun e w' ⟨he, ht, hk⟩ =>
    have hk3 : Keeps (only3 p g h) w w' := hk.mono fun _ _ e => .inl e
    ⟨he, ⟨ht, o.hp, Above.none _, Above.none _, o.fresh hk3⟩, hk3⟩
theorem own_all (o : TOwn w0 w p g h ts ws) (hl : ts.length ≤ 100000) : Calls Try.prog 39 #[tp p] w fun e w' => ∃ v gb, e = .returned v ∧ recU.Rd w' v gb ts ∧ (∀ b, gb = some b → ¬ only3 p g h b) ∧ TOwn w0 w' p g h ts ws ∧ Keeps nowhere w w' :=
  (tall_any w p g h ts ws o.t hl).mono fun e w' ⟨v, gb, he, hr, ha, hk⟩ => ⟨v, gb, he, hr, o.apart ha, o.same hk, hk⟩
theorem own_waits (old : Nat) (o : TOwn w0 w p g h ts ws) (hlw : ws.length ≤ 100000) : Calls Try.prog 41 #[tp p, .int .u16 old] w fun e w' => ∃ v gb, e = .returned v ∧ recU.Rd w' v gb (outsL ws old) ∧ (∀ b, gb = some b → ¬ only3 p g h b) ∧ TOwn w0 w' p g h ts ws ∧ Keeps nowhere w w' :=
  (twaits_any w p g h ts ws old o.t hlw).mono fun e w' ⟨v, gb, he, hr, ha, hk⟩ => ⟨v, gb, he, hr, o.apart ha, o.same hk, hk⟩
end
theorem rdU_at {w : World} {v : Value} {g : Option Nat} {l : List Nat} (h : recU.Rd w v g l) (hp : 0 < l.length) : ∃ b off c, v = .slice (some ⟨b, off, none⟩) l.length c ∧ g = some b ∧ b < w.heap.size ∧ ∀ (i x : Nat), l[i]? = some x → w.cell? ⟨b, off + i, none⟩ = some (.int .u16 x) := by
  obtain ⟨A, c, rfl, _, _, hu, h3, _⟩ := h
  obtain ⟨b, off, rfl, hg, hc⟩ := h3 hp
  refine ⟨b, off, c, rfl, hg, hu b hg, fun i x hi => ?_⟩
  have := atU (hc i x hi)
  rwa [show i * recU.n = i from Nat.mul_one i] at this
theorem rdU_form {w : World} {v : Value} {g : Option Nat} {l : List Nat} (h : recU.Rd w v g l) : ∃ A c, v = .slice A l.length c := by
  obtain ⟨A, c, hv, _⟩ := h
  exact ⟨A, c, hv⟩
def YesT (w : World) : Ending → World → Prop := fun e w' => e = .returned (.bool true) ∧ Keeps nowhere w w'

theorem kt : askE [] 5 = 0 ∧ askL [] 5 = [5] ∧ askE [5] 5 = 16 ∧ askL [5] 5 = [5] ∧ askE [5] 6 = 0 ∧ askL [5] 6 = [5, 6] ∧ flushE [5, 6] 6 = 0 ∧ flushW [5, 6] [] 6 5 = [(6, 5)] ∧ outsL [(6, 5)] 5 = [6] ∧ ([5, 6] : List Nat).contains 5 = true ∧ doneA [5, 6] 5 = [6] ∧ doneW [5, 6] [(6, 5)] 5 = [] ∧ ([6] : List Nat).contains 5 = false ∧ outsL [] 5 = [] ∧ doneA [6] 5 = [6] ∧ doneW [6] [] 5 = [] := by decide

set_option maxRecDepth 20000 in
set_option maxHeartbeats 4000000 in
theorem known21 (w : World) : Calls Try.prog 31 #[] w (YesT w) := by
  obtain ⟨e1, l1, e2, l2, e3, l3, e4, l4, o1, c1, l5, w5, c2, o2, l6, w6⟩ := kt
  have E1 := Lib.hid e1
  have L1 := Lib.hid l1
  have E2 := Lib.hid e2
  have L2 := Lib.hid l2
  have E3 := Lib.hid e3
  have L3 := Lib.hid l3
  have E4 := Lib.hid e4
  have L4 := Lib.hid l4
  have O1 := Lib.hid o1
  have C1 := Lib.hid c1
  have L5 := Lib.hid l5
  have W5 := Lib.hid w5
  have C2 := Lib.hid c2
  have O2 := Lib.hid o2
  have L6 := Lib.hid l6
  have W6 := Lib.hid w6
  clear e1 l1 e2 l2 e3 l3 e4 l4 o1 c1 l5 w5 c2 o2 l6 w6
  go_enter Try.func31, Try.ntmps31
  go_wp2_with fail
  refine (own_tnew w _ (Keeps.refl _ _)).mono ?_
  rintro e w1 ⟨p, rfl, h1⟩
  unfold tp
  have H1 := Lib.hid h1
  clear h1
  go_wp2_with fail
  refine (own_ask 5 H1.out (by decide)).mono ?_
  rintro e w2 ⟨rfl, g2, h2, -, -⟩
  rw [E1.out]
  rw [L1.out] at h2
  have H2 := Lib.hid h2
  clear h2
  go_wp2_with fail
  refine (own_ask 5 H2.out (by decide)).mono ?_
  rintro e w3 ⟨rfl, g3, h3, -, -⟩
  rw [E2.out]
  rw [L2.out] at h3
  have H3 := Lib.hid h3
  clear h3
  go_wp2_with fail
  refine (own_ask 6 H3.out (by decide)).mono ?_
  rintro e w4 ⟨rfl, g4, h4, -, -⟩
  rw [E3.out]
  rw [L3.out] at h4
  have H4 := Lib.hid h4
  clear h4
  go_wp2_with fail
  refine (own_tflush 6 5 H4.out (by decide) (by decide)).mono ?_
  rintro e w5 ⟨rfl, h5', h5, -, -⟩
  rw [E4.out]
  rw [L4.out] at h5
  have H5 := Lib.hid h5
  clear h5
  go_wp2_with fail
  refine (own_waits 5 H5.out (by decide)).mono ?_
  rintro e w6 ⟨v6, gb6, rfl, hr6, hn6, h6, -⟩
  rw [O1.out] at hr6
  have H6 := Lib.hid h6
  clear h6
  obtain ⟨A6, c6, rfl⟩ := rdU_form hr6
  simp only [List.length_cons, List.length_nil, Nat.reduceAdd]
  go_wp2_with fail
  refine (own_all H6.out (by decide)).mono ?_
  rintro e w7 ⟨v7, gb7, rfl, hr7, hn7, h7, hk7⟩
  have hr6b := hr6.same hk7
  have H7 := Lib.hid h7
  clear h7
  obtain ⟨A7, c7, rfl⟩ := rdU_form hr7
  simp only [List.length_cons, List.length_nil, Nat.reduceAdd]
  go_wp2_with fail
  refine (own_done 5 H7.out (by decide) (by decide)).mono ?_
  rintro e w8 ⟨rfl, h8, hk8⟩
  rw [C1.out]
  rw [L5.out, W5.out] at h8
  obtain ⟨b6, f6, c6', hv6, -, -, hx6⟩ := rdU_at (hr6b.keep hk8 hn6) (by decide)
  obtain ⟨b7, f7, c7', hv7, -, -, hx7⟩ := rdU_at (hr7.keep hk8 hn7) (by decide)
  injection hv6 with hA6 _ hc6
  injection hv7 with hA7 _ hc7
  subst hA6 hc6 hA7 hc7
  have x6 := hx6 0 6 rfl
  have x7 := hx7 0 5 rfl
  simp at x6 x7
  clear hr6 hr6b hr7 hn6 hn7 hk7 hk8 hx6 hx7
  have H8 := Lib.hid h8
  clear h8
  go_wp2_with fail
  refine (own_has 5 H8.out (by decide)).mono ?_
  rintro e w9 ⟨rfl, h9, hk9⟩
  rw [C2.out]
  have H9 := Lib.hid h9
  have Hk9 := Lib.hid hk9
  clear h9 hk9
  go_wp2_with fail
  refine (own_waits 5 H9.out (by decide)).mono ?_
  rintro e wa ⟨va, gba, rfl, hra, -, ha, -⟩
  rw [O2.out] at hra
  obtain ⟨Aa, ca, rfl⟩ := rdU_form hra
  simp only [List.length_nil]
  clear hra
  have Ha := Lib.hid ha
  clear ha
  go_wp2_with fail
  refine (own_done 5 Ha.out (by decide) (by decide)).mono ?_
  rintro e wb ⟨rfl, hb, -⟩
  rw [C2.out]
  have Hb := Lib.hid hb
  clear hb
  go_wp2_with fail
  go_ret
  exact ⟨rfl, Hb.out.k⟩
end Go.Proofs.Ytnccgmffgmfinaa
