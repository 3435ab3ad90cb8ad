/-
  tag: Done, Flush, Reset, All.
-/
import Derived.Test.YtnccgmffgmfinaaT2
namespace Go.Proofs.Ytnccgmffgmfinaa
open Go.RowKit Go.Shelf

theorem done1_any (x q b : Nat) (w : World) (hq : w.cell? ⟨q, 0, none⟩ = some (.int .u16 x)) (hql : q < w.heap.size) (hqb : b ≠ q) :
    PredR uU 52 #[.pointer (some ⟨q, 0, none⟩)] (fun y => y == x) b w := fun W j hk => by
  have ca := (hk.cell (p := ⟨q, 0, none⟩) hql (fun h => hqb h.symm)).trans hq
  show Calls Try.prog _ #[.int .u16 j, .pointer (some ⟨q, 0, none⟩)] W _
  have hR : (j == x) = ((j : Int) == (x : Int)) := by
    by_cases h : j = x
    · subst h; simp
    · have h2 : ¬ (j : Int) = x := by omega
      rw [beq_false_of_ne h, beq_false_of_ne h2]
  clear hk
  have HR := Lib.hid hR
  clear hR
  go_enter Try.func52, Try.ntmps52
  go_wp2_with fail
  go_ret
  exact ⟨by rw [HR.out]; rfl, Keeps.refl _ _⟩
theorem beqU (j x : Nat) : ((j : Int) == (x : Int)) = (j == x) := by
  by_cases h : j = x
  · subst h; simp
  · have h2 : ¬ (j : Int) = x := by omega
    rw [beq_false_of_ne h, beq_false_of_ne h2]
theorem flush1_any (x q b : Nat) (w : World) (hq : w.cell? ⟨q, 0, none⟩ = some (.int .u16 x)) (hql : q < w.heap.size) (hqb : b ≠ q) :
    PredR uW 55 #[.pointer (some ⟨q, 0, none⟩)] (fun t => t.1 == x) b w := fun W j hk => by
  have hk1 := (Keeps.refl nowhere W).alloc (.cells #[.int .u16 j.1, .int .u16 j.2] 96)
  have ca := (hk1.cell (p := ⟨q, 0, none⟩) (Nat.lt_of_lt_of_le hql hk.size) (fun h => h)).trans ((hk.cell (p := ⟨q, 0, none⟩) hql (fun h => hqb h.symm)).trans hq)
  obtain ⟨j1, j2⟩ := j
  show Calls Try.prog _ #[.agg #[.int .u16 j1, .int .u16 j2], .pointer (some ⟨q, 0, none⟩)] W _
  simp only at ca hk1 ⊢
  have hR := beqU j1 x
  have Hk1 := Lib.hid hk1
  have Hk := Lib.hid hk
  have HR := Lib.hid hR
  clear hk1 hk hR
  go_enter Try.func55, Try.ntmps55
  go_wp2_with fail
  go_ret
  exact ⟨by rw [← HR.out]; rfl, Hk1.out⟩
theorem done2_any (x q b : Nat) (w : World) (hq : w.cell? ⟨q, 0, none⟩ = some (.int .u16 x)) (hql : q < w.heap.size) (hqb : b ≠ q) :
    PredR uW 54 #[.pointer (some ⟨q, 0, none⟩)] (fun t => t.1 == x || t.2 == x) b w := fun W j hk => by
  have hk1 := (Keeps.refl nowhere W).alloc (.cells #[.int .u16 j.1, .int .u16 j.2] 96)
  have ca := (hk1.cell (p := ⟨q, 0, none⟩) (Nat.lt_of_lt_of_le hql hk.size) (fun h => h)).trans ((hk.cell (p := ⟨q, 0, none⟩) hql (fun h => hqb h.symm)).trans hq)
  obtain ⟨j1, j2⟩ := j
  show Calls Try.prog _ #[.agg #[.int .u16 j1, .int .u16 j2], .pointer (some ⟨q, 0, none⟩)] W _
  simp only at ca hk1 ⊢
  have hR := beqU j1 x
  have hR2 := beqU j2 x
  have Hk1 := Lib.hid hk1
  have Hk := Lib.hid hk
  have HR := Lib.hid hR
  have HR2 := Lib.hid hR2
  clear hk1 hk hR hR2
  by_cases h1 : j1 = x
  · have h1' : ((j1 : Int) == (x : Int)) = true := by simp [h1]
    have h1n : (j1 == x) = true := by simp [h1]
    have H1 := Lib.hid h1
    have H1n := Lib.hid h1n
    clear h1 h1n
    go_enter Try.func54, Try.ntmps54
    go_wp2_with fail
    go_ret
    exact ⟨by rw [H1n.out]; rfl, Hk1.out⟩
  · have h1' : ((j1 : Int) == (x : Int)) = false := by simp; omega
    have h1n : (j1 == x) = false := by simp [h1]
    have H1 := Lib.hid h1
    have H1n := Lib.hid h1n
    clear h1 h1n
    go_enter Try.func54, Try.ntmps54
    go_wp2_with fail
    go_ret
    exact ⟨by rw [H1n.out, ← HR2.out]; rfl, Hk1.out⟩

def doneA (ts : List Nat) (x : Nat) : List Nat := ts.filter fun y => !(y == x)
def doneW (ts : List Nat) (ws : List (Nat × Nat)) (x : Nat) : List (Nat × Nat) := if ts.contains x then ws.filter (fun t => !(t.1 == x || t.2 == x)) else ws
theorem doneA_no {ts : List Nat} {x : Nat} (h : ts.contains x = false) : doneA ts x = ts := by
  refine filterR_all fun t ht => ?_
  rw [beq_eq_false_iff_ne]
  rintro rfl
  rw [List.contains_iff_mem.2 ht] at h
  cases h
theorem keep3_2 {p : Nat} {g h : Option Nat} {w w' : World} (k : Keeps (only2 p g) w w') : Keeps (only3 p g h) w w' := k.mono fun _ _ e => e.elim .inl (fun e => .inr (.inl e))
theorem keep3_3 {p : Nat} {g h : Option Nat} {w w' : World} (k : Keeps (only2 p h) w w') : Keeps (only3 p g h) w w' := k.mono fun _ _ e => e.elim .inl (fun e => .inr (.inr e))

set_option maxRecDepth 8000 in
set_option maxHeartbeats 4000000 in
theorem tdone_any (w : World) (p : Nat) (g h : Option Nat) (ts : List Nat) (ws : List (Nat × Nat)) (x : Nat) (t : TabAt w p g h ts ws) (hl : ts.length ≤ 100000) (hlw : ws.length ≤ 100000) :
    Calls Try.prog 35 #[tp p, .int .u16 x] w fun e w' => e = .returned (.bool (ts.contains x)) ∧ TabAt w' p g h (doneA ts x) (doneW ts ws x) ∧ Keeps (only3 p g h) w w' := by
  have eg1 : ∀ args w, (callFunc 52 args).run Try.prog w = .ok (.enter 52 args) w := enters_of Try.func52 (by kernel_rfl) rfl
  have eg2 : ∀ args w, (callFunc 54 args).run Try.prog w = .ok (.enter 54 args) w := enters_of Try.func54 (by kernel_rfl) rfl
  obtain ⟨w1, hw1⟩ : ∃ w1, w1 = w.alloc (.cells #[.int .u16 x] 43) := ⟨_, rfl⟩
  have hk1 : Keeps nowhere w w1 := by rw [hw1]; exact (Keeps.refl _ _).alloc _
  have hb1 : Blk w1 w.heap.size 43 #[.int .u16 x] := by rw [hw1]; exact Blk.new _ _ _
  have t1 := t.same hk1
  have hlt := t.lt
  have hhas := thas_any w1 p g h ts ws x t1 hl
  have c0 : w1.cell? ⟨w.heap.size, 0, none⟩ = some (.int .u16 x) := hb1.cell 0
  rw [hw1] at c0
  unfold tp at hhas ⊢
  cases hc : ts.contains x with
  | false =>
    rw [hc] at hhas
    have Hhas := Lib.hid hhas
    have T1 := Lib.hid t1
    have Hc := Lib.hid hc
    have Hk1 := Lib.hid hk1
    have Hlt := Lib.hid hlt
    have Eg1 := Lib.hid eg1
    have Eg2 := Lib.hid eg2
    have Hb1 := Lib.hid hb1
    clear hhas t1 hc hk1 hlt eg1 eg2 hb1
    clear t
    go_enter Try.func35, Try.ntmps35
    go_wp2_with fail
    rw [← hw1]
    refine Hhas.out.mono ?_
    rintro e w2 ⟨rfl, hk2⟩
    have Hk2 := Lib.hid hk2
    have Hw1 := Lib.hid hw1
    clear hk2 hw1
    go_wp2_with fail
    go_ret
    exact ⟨rfl, by rw [doneA_no Hc.out, doneW, Hc.out]; exact T1.out.same Hk2.out, (Hk1.out.more Hk2.out).mono (fun _ _ h => h.elim)⟩
  | true =>
    rw [hc] at hhas
    have Hhas := Lib.hid hhas
    have T1 := Lib.hid t1
    have Hc := Lib.hid hc
    have Hk1 := Lib.hid hk1
    have Hlt := Lib.hid hlt
    have Eg1 := Lib.hid eg1
    have Eg2 := Lib.hid eg2
    have Hb1 := Lib.hid hb1
    clear hhas t1 hc hk1 hlt eg1 eg2 hb1
    clear t
    go_enter Try.func35, Try.ntmps35
    go_wp2_with fail
    rw [← hw1]
    refine Hhas.out.mono ?_
    rintro e w2 ⟨rfl, hk2⟩
    clear c0
    obtain ⟨va, vw, hb, hu, hw, rfl, rfl⟩ := T1.out.same hk2
    have hb2 := Hb1.out.keep hk2 (fun h => h)
    obtain ⟨A, ca, rfl, -⟩ := hu.form
    obtain ⟨B, cb, rfl, -⟩ := hw.form
    have hD := u_del _ w.heap.size _ _ Eg1.out w2 _ ts hu (by omega) (fun b hbq => done1_any x w.heap.size b w2 (by simpa using hb2.cell 0) hb2.lt hbq) (fun e => by have := Hlt.out.2.1 _ e; omega)
    have c0 : w2.cell? ⟨p, 0, none⟩ = some (.slice A ts.length ca) := hb.cell 0
    have Hk2 := Lib.hid hk2
    have Hb := Lib.hid hb
    have Hu := Lib.hid hu
    have Hw := Lib.hid hw
    have Hb2 := Lib.hid hb2
    have Hw1 := Lib.hid hw1
    have HD := Lib.hid hD
    clear hk2 hb hu hw hb2 hw1 hD
    go_wp2_with fail
    refine HD.out.mono ?_
    rintro e w3 ⟨v3, rfl, hu3, ho3, hk3⟩
    obtain ⟨hb3, ht3, hk4⟩ := tab_setA Hb.out Hu.out Hw.out hu3 hk3 (fun b h => .inl (by rw [← ho3]; exact h))
    have c3 : w3.cell? ⟨p, 0, none⟩ = some (.slice A ts.length ca) := hb3.cell 0
    have z3 := hb3.frozen 0
    have hbq4 := Hb2.out.keep hk4 (fun e => e.elim (fun e => by have := Hlt.out.1; omega) (fun e => by have := Hlt.out.2.1 _ e.symm; omega))
    obtain ⟨A3, c3', rfl, -⟩ := hu3.form
    obtain ⟨w4, hw4⟩ : ∃ w4, w4 = w3.setCell ⟨p, 0, none⟩ (.slice A3 (ts.filter fun x_1 => !(x_1 == x)).length c3') := ⟨_, rfl⟩
    rw [← hw4] at ht3 hk4 hbq4
    obtain ⟨va4, vw4, hb4, hu4, hw4r, e4, f4⟩ := id ht3
    have hD2 := wt_del _ w.heap.size _ _ Eg2.out w4 _ ws hw4r (by omega) (fun b hbq => done2_any x w.heap.size b w4 (by simpa using hbq4.cell 0) hbq4.lt hbq) (fun e => by have := Hlt.out.2.2 _ (f4.trans e); omega)
    obtain ⟨B4, cb4, rfl, -⟩ := hw4r.form
    have c4 : w4.cell? ⟨p, 1, none⟩ = some (.slice B4 ws.length cb4) := hb4.cell 1
    rw [hw4] at c4
    clear c0
    have Hu3 := Lib.hid hu3
    have Ho3 := Lib.hid ho3
    have Hk3 := Lib.hid hk3
    have Hb3 := Lib.hid hb3
    have Ht3 := Lib.hid ht3
    have Hk4 := Lib.hid hk4
    have Hbq4 := Lib.hid hbq4
    have Hb4 := Lib.hid hb4
    have Hu4 := Lib.hid hu4
    have Hw4r := Lib.hid hw4r
    have E4 := Lib.hid e4
    have F4 := Lib.hid f4
    have HD2 := Lib.hid hD2
    clear hu3 ho3 hk3 hb3 ht3 hk4 hbq4 hb4 hu4 hw4r e4 f4 hD2
    go_wp2_with fail
    rw [← hw4]
    clear c3 z3 c4
    refine HD2.out.mono ?_
    rintro e w5 ⟨v5, rfl, hw5, ho5, hk5⟩
    obtain ⟨hb5, ht5, hk6⟩ := tab_setW Hb4.out Hu4.out Hw4r.out hw5 hk5
    obtain ⟨B5, cb5, rfl, -⟩ := hw5.form
    obtain ⟨N5, hN5⟩ : ∃ N5, N5 = (ws.filter fun t => !(t.1 == x || t.2 == x)).length := ⟨_, rfl⟩
    rw [← hN5] at ht5 hk6 ho5 ⊢
    have HN5 := Lib.hid hN5
    clear hN5
    have c5 : w5.cell? ⟨p, 1, none⟩ = some (.slice B4 ws.length cb4) := hb5.cell 1
    have z5 := hb5.frozen 1
    have Hw4 := Lib.hid hw4
    have Hw5 := Lib.hid hw5
    have Ho5 := Lib.hid ho5
    have Hk5 := Lib.hid hk5
    have Hb5 := Lib.hid hb5
    have Ht5 := Lib.hid ht5
    have Hk6 := Lib.hid hk6
    clear hw4 hw5 ho5 hk5 hb5 ht5 hk6
    go_wp2_with fail
    go_ret
    refine ⟨rfl, ?_, ?_⟩
    · have h := Ht5.out
      rw [← E4.out, Ho5.out, ← F4.out, Ho3.out] at h
      unfold doneA doneW
      rw [Hc.out, if_pos rfl]
      exact h
    · have k := Hk6.out
      rw [← F4.out] at k
      exact (((Hk1.out.more Hk2.out).mono (fun _ _ h => h.elim)).trans (keep3_2 Hk4.out) (fun _ _ h => h)).trans (keep3_3 k) (fun _ _ h => h)

theorem treset_any (w : World) (p : Nat) (g h : Option Nat) (ts : List Nat) (ws : List (Nat × Nat)) (t : TabAt w p g h ts ws) :
    Calls Try.prog 38 #[tp p] w fun e w' => e = .returned (.tuple #[]) ∧ TabAt w' p none none [] [] ∧ Keeps (only p) w w' := by
  obtain ⟨va, vw, hb, hu, hw, rfl, rfl⟩ := t
  obtain ⟨A, ca, rfl, -⟩ := hu.form
  obtain ⟨B, cb, rfl, -⟩ := hw.form
  have c0 : w.cell? ⟨p, 0, none⟩ = some (.slice A ts.length ca) := hb.cell 0
  have c1 : w.cell? ⟨p, 1, none⟩ = some (.slice B ws.length cb) := hb.cell 1
  have z0 := hb.frozen 0
  have z1 := hb.frozen 1
  have hb2 := (hb.set_ 0 (.slice none 0 0)).set_ 1 (.slice none 0 0)
  have hk : Keeps (only p) w ((w.setCell ⟨p, 0, none⟩ (.slice none 0 0)).setCell ⟨p, 1, none⟩ (.slice none 0 0)) := ((Keeps.refl (only p) w).setCell (p := ⟨p, 0, none⟩) (fun _ => rfl) _).setCell (p := ⟨p, 1, none⟩) (fun _ => rfl) _
  simp at hb2
  unfold tp
  clear hu hw hb
  have Hb2 := Lib.hid hb2
  have Hk := Lib.hid hk
  clear hb2 hk
  go_enter Try.func38, Try.ntmps38
  go_wp2_with fail
  refine bodyPost_end (results_none rfl _ _ _) rfl ?_
  exact ⟨rfl, ⟨_, _, Hb2.out, RecT.Row.nil _ _, RecT.Row.nil _ _, rfl, rfl⟩, Hk.out⟩

theorem tall_any (w : World) (p : Nat) (g h : Option Nat) (ts : List Nat) (ws : List (Nat × Nat)) (t : TabAt w p g h ts ws) (hl : ts.length ≤ 100000) :
    Calls Try.prog 39 #[tp p] w fun e w' => ∃ v gb, e = .returned v ∧ recU.Rd w' v gb ts ∧ Above w.heap.size gb ∧ Keeps nowhere w w' := by
  obtain ⟨va, vw, hb, hu, hw, rfl, rfl⟩ := t
  obtain ⟨A, c, rfl, -⟩ := hu.form
  have c0 : w.cell? ⟨p, 0, none⟩ = some (.slice A ts.length c) := hb.cell 0
  have hcl := uclone_any _ _ ts w hu.rd hl
  clear hb hu hw
  unfold tp
  have Hcl := Lib.hid hcl
  clear hcl
  go_enter Try.func39, Try.ntmps39
  go_wp2_with fail
  refine Hcl.out.mono ?_
  rintro e w1 ⟨v1, rfl, hu1, hab1, hk1⟩
  have hcp := uclip_any v1 ts w1 hu1
  have Hu1 := Lib.hid hu1
  have Hab1 := Lib.hid hab1
  have Hk1 := Lib.hid hk1
  have Hcp := Lib.hid hcp
  clear hu1 hab1 hk1 hcp
  go_wp2_with fail
  refine Hcp.out.mono ?_
  rintro e w2 ⟨v2, g2, rfl, hr2, hg2, rfl⟩
  have Hr2 := Lib.hid hr2
  have Hg2 := Lib.hid hg2
  clear hr2 hg2
  go_wp2_with fail
  go_ret
  exact ⟨_, g2, rfl, Hr2.out, fun b hb => Hab1.out b (Hg2.out b hb), Hk1.out⟩

def flushW (ts : List Nat) (ws : List (Nat × Nat)) (x old : Nat) : List (Nat × Nat) :=
  if ts.contains x then (if old ≠ x ∧ ts.contains old then (ws.filter fun t => !(t.1 == x)) ++ [(x, old)] else ws.filter fun t => !(t.1 == x)) else ws
def flushE (ts : List Nat) (x : Nat) : Int := if ts.contains x then 0 else 1

set_option maxRecDepth 8000 in
set_option maxHeartbeats 4000000 in
theorem tflush_any (w : World) (p : Nat) (g h : Option Nat) (ts : List Nat) (ws : List (Nat × Nat)) (x old : Nat) (t : TabAt w p g h ts ws) (hl : ts.length ≤ 100000) (hlw : ws.length ≤ 100000) :
    Calls Try.prog 37 #[tp p, .int .u16 x, .int .u16 old] w fun e w' => e = .returned (.int .i64 (flushE ts x)) ∧ ∃ h', TabAt w' p g h' ts (flushW ts ws x old) ∧ Keeps (only3 p g h) w w' ∧ From h w.heap.size h' := by
  have eg1 : ∀ args w, (callFunc 55 args).run Try.prog w = .ok (.enter 55 args) w := enters_of Try.func55 (by kernel_rfl) rfl
  obtain ⟨w1, hw1⟩ : ∃ w1, w1 = w.alloc (.cells #[.int .u16 x] 43) := ⟨_, rfl⟩
  have hk1 : Keeps nowhere w w1 := by rw [hw1]; exact (Keeps.refl _ _).alloc _
  have hb1 : Blk w1 w.heap.size 43 #[.int .u16 x] := by rw [hw1]; exact Blk.new _ _ _
  have t1 := t.same hk1
  have hlt := t.lt
  have hhas := thas_any w1 p g h ts ws x t1 hl
  have c0 : w1.cell? ⟨w.heap.size, 0, none⟩ = some (.int .u16 x) := hb1.cell 0
  rw [hw1] at c0
  unfold tp at hhas ⊢
  cases hc : ts.contains x with
  | false =>
    rw [hc] at hhas
    have hE : flushE ts x = 1 := by rw [flushE, hc]; rfl
    have Hhas := Lib.hid hhas
    have T1 := Lib.hid t1
    have Hc := Lib.hid hc
    have Hk1 := Lib.hid hk1
    have Hlt := Lib.hid hlt
    have Eg1 := Lib.hid eg1
    have Hb1 := Lib.hid hb1
    have HE := Lib.hid hE
    clear hhas t1 hc hk1 hlt eg1 hb1 hE
    clear t
    go_enter Try.func37, Try.ntmps37
    go_wp2_with fail
    rw [← hw1]
    refine Hhas.out.mono ?_
    rintro e w2 ⟨rfl, hk2⟩
    have Hk2 := Lib.hid hk2
    have Hw1 := Lib.hid hw1
    clear hk2 hw1
    go_wp2_with fail
    go_ret
    exact ⟨by rw [HE.out]; rfl, h, by rw [flushW, Hc.out, if_neg (by simp)]; exact T1.out.same Hk2.out, (Hk1.out.more Hk2.out).mono (fun _ _ h => h.elim), From.refl _ _⟩
  | true =>
    rw [hc] at hhas
    have hE : flushE ts x = 0 := by rw [flushE, hc]; rfl
    have Hhas := Lib.hid hhas
    have T1 := Lib.hid t1
    have Hc := Lib.hid hc
    have Hk1 := Lib.hid hk1
    have Hlt := Lib.hid hlt
    have Eg1 := Lib.hid eg1
    have Hb1 := Lib.hid hb1
    have HE := Lib.hid hE
    clear hhas t1 hc hk1 hlt eg1 hb1 hE
    clear t
    go_enter Try.func37, Try.ntmps37
    go_wp2_with fail
    rw [← hw1]
    refine Hhas.out.mono ?_
    rintro e w2 ⟨rfl, hk2⟩
    clear c0
    obtain ⟨va, vw, hb, hu, hw, rfl, rfl⟩ := T1.out.same hk2
    have hb2 := Hb1.out.keep hk2 (fun h => h)
    obtain ⟨B, cb, rfl, -⟩ := hw.form
    have hD := wt_del _ w.heap.size _ _ Eg1.out w2 _ ws hw (by omega) (fun b hbq => flush1_any x w.heap.size b w2 (by simpa using hb2.cell 0) hb2.lt hbq) (fun e => by have := Hlt.out.2.2 _ e; omega)
    have c1 : w2.cell? ⟨p, 1, none⟩ = some (.slice B ws.length cb) := hb.cell 1
    have Hk2 := Lib.hid hk2
    have Hb := Lib.hid hb
    have Hu := Lib.hid hu
    have Hw := Lib.hid hw
    have Hb2 := Lib.hid hb2
    have Hw1 := Lib.hid hw1
    have HD := Lib.hid hD
    clear hk2 hb hu hw hb2 hw1 hD
    go_wp2_with fail
    refine HD.out.mono ?_
    rintro e w3 ⟨v3, rfl, hw3, ho3, hk3⟩
    obtain ⟨hb3, ht3, hk4⟩ := tab_setW Hb.out Hu.out Hw.out hw3 hk3
    have c3 : w3.cell? ⟨p, 1, none⟩ = some (.slice B ws.length cb) := hb3.cell 1
    have z3 := hb3.frozen 1
    have hbq4 := Hb2.out.keep hk4 (fun e => e.elim (fun e => by have := Hlt.out.1; omega) (fun e => by have := Hlt.out.2.2 _ e.symm; omega))
    obtain ⟨wf, hwf⟩ : ∃ wf, wf = ws.filter fun t => !(t.1 == x) := ⟨_, rfl⟩
    rw [← hwf] at hw3 ht3
    have hwfl : wf.length ≤ 100000 := by rw [hwf]; exact Nat.le_trans (List.length_filter_le _ _) hlw
    obtain ⟨A3, c3', rfl, -⟩ := hw3.form
    obtain ⟨w4, hw4⟩ : ∃ w4, w4 = w3.setCell ⟨p, 1, none⟩ (.slice A3 wf.length c3') := ⟨_, rfl⟩
    rw [← hw4] at ht3 hk4 hbq4
    have e4 : w4.cell? ⟨w.heap.size, 0, none⟩ = some (.int .u16 x) := by simpa using hbq4.cell 0
    have e4w := e4
    rw [hw4] at e4
    rw [ho3] at ht3
    have hkw4 : Keeps (only3 p va.ownBlock (Value.ownBlock (.slice B ws.length cb))) w w4 := ((Hk1.out.more Hk2.out).mono (fun _ _ h => h.elim)).trans (keep3_3 hk4) (fun _ _ h => h)
    have hsz4 := hkw4.size
    by_cases hox : old = x
    · have hne : ((old : Int) != (x : Int)) = false := by simp [hox]
      have hF : flushW ts ws x old = wf := by rw [flushW, if_pos Hc.out, if_neg (fun h => h.1 hox), hwf]
      have Hw3 := Lib.hid hw3
      have Ho3 := Lib.hid ho3
      have Hk3 := Lib.hid hk3
      have Hb3 := Lib.hid hb3
      have Ht3 := Lib.hid ht3
      have Hk4 := Lib.hid hk4
      have Hbq4 := Lib.hid hbq4
      have Hwf := Lib.hid hwf
      have Hwfl := Lib.hid hwfl
      have Hox := Lib.hid hox
      have HF := Lib.hid hF
      have Hkw4 := Lib.hid hkw4
      have Hsz4 := Lib.hid hsz4
      have E4w := Lib.hid e4w
      clear hw3 ho3 hk3 hb3 ht3 hk4 hbq4 hwf hwfl hox hF hkw4 hsz4 e4w
      go_wp2_with fail
      rw [← hw4]
      go_ret
      exact ⟨by rw [HE.out]; rfl, _, by rw [HF.out]; exact Ht3.out, Hkw4.out, From.refl _ _⟩
    · have hne : ((old : Int) != (x : Int)) = true := by simp; omega
      have hhas2 := thas_any w4 p _ _ ts wf old ht3 hl
      unfold tp at hhas2
      have Hw3 := Lib.hid hw3
      have Ho3 := Lib.hid ho3
      have Hk3 := Lib.hid hk3
      have Hb3 := Lib.hid hb3
      have Ht3 := Lib.hid ht3
      have Hk4 := Lib.hid hk4
      have Hbq4 := Lib.hid hbq4
      have Hwf := Lib.hid hwf
      have Hwfl := Lib.hid hwfl
      have Hox := Lib.hid hox
      have Hkw4 := Lib.hid hkw4
      have Hsz4 := Lib.hid hsz4
      clear hw3 ho3 hk3 hb3 ht3 hk4 hbq4 hwf hwfl hox hkw4 hsz4
      cases hc2 : ts.contains old with
      | false =>
        rw [hc2] at hhas2
        have hF : flushW ts ws x old = wf := by rw [flushW, if_pos Hc.out, if_neg (fun h => by rw [hc2] at h; exact absurd h.2 (by simp)), Hwf.out]
        have Hhas2 := Lib.hid hhas2
        have Hc2 := Lib.hid hc2
        have HF := Lib.hid hF
        have E4w := Lib.hid e4w
        clear hhas2 hc2 hF e4w
        go_wp2_with fail
        rw [← hw4]
        refine Hhas2.out.mono ?_
        rintro e w5 ⟨rfl, hk5⟩
        have Hk5 := Lib.hid hk5
        clear hk5
        go_wp2_with fail
        go_ret
        exact ⟨by rw [HE.out]; rfl, _, by rw [HF.out]; exact Ht3.out.same Hk5.out, Hkw4.out.trans Hk5.out (fun _ _ h => h.elim), From.refl _ _⟩
      | true =>
        rw [hc2] at hhas2
        have hF : flushW ts ws x old = wf ++ [(x, old)] := by rw [flushW, if_pos Hc.out, if_pos ⟨Hox.out, hc2⟩, Hwf.out]
        have Hhas2 := Lib.hid hhas2
        have Hc2 := Lib.hid hc2
        have HF := Lib.hid hF
        clear hhas2 hc2 hF
        go_wp2_with fail
        rw [← hw4]
        refine Hhas2.out.mono ?_
        rintro e w5 ⟨rfl, hk5⟩
        obtain ⟨va5, vw5, hb5, hu5, hw5, e5, f5⟩ := Ht3.out.same hk5
        obtain ⟨B5, cb5, rfl, -⟩ := hw5.form
        have hbq5 := Hbq4.out.keep hk5 (fun h => h)
        have q0 : ∀ w', Keeps nowhere w5.drew w' → w'.cell? ⟨w.heap.size, 0, none⟩ = some (.int .u16 x) := fun w' hs => by simpa using (hbq5.drew.keep hs (fun h => h)).cell 0
        have q1 : ∀ w', Keeps nowhere w5.drew w' → w'.cell? ⟨p, 1, none⟩ = some (.slice B5 wf.length cb5) := fun w' hs => by simpa using (hb5.drew.keep hs (fun h => h)).cell 1
        have hka : Keeps nowhere w5 (w5.drew.alloc (.cells #[.int .u16 x, .int .u16 old] 96)) := (Keeps.refl nowhere w5).drew.alloc _
        have hwa := hw5.same hka
        have hx1 := oneW w5.drew (x, old)
        have hlb : wf.length + ([(x, old)] : List (Nat × Nat)).length ≤ 100000000 := by have := Hwfl.out; simp; omega
        clear e4 e4w
        have Hk5 := Lib.hid hk5
        have Hb5 := Lib.hid hb5
        have Hu5 := Lib.hid hu5
        have Hw5 := Lib.hid hw5
        have E5 := Lib.hid e5
        have F5 := Lib.hid f5
        have Hbq5 := Lib.hid hbq5
        have Hka := Lib.hid hka
        have Hwa := Lib.hid hwa
        have Hx1 := Lib.hid hx1
        have Hlb := Lib.hid hlb
        clear hk5 hb5 hu5 hw5 e5 f5 hbq5 hka hwa hx1 hlb
        go_wp2_with fail
        refine wp_region_script [0, 1, 2, 3, 4, 5, 6, 7] [4, 5] [.ps [0, 1, 2, 3], .fs [4], .fs [5], .ps [6, 7], .es [8] true, .es [9, 10, 11, 12] false] (Keeps nowhere w5.drew) rfl (by kernel_rfl) ?_
        refine wpS_ps rfl fun K hK => ?_
        simp only [List.map_cons, List.map_nil, Option.getD_some, List.getElem?_toArray, List.getElem?_cons_zero, List.getElem?_cons_succ]
        iterate 4 (first | (apply quietO_cons _ rfl; (intro w' _; go_simp; rfl)) | apply quietO_skip rfl)
        refine hK _ ?_
        clear hK K
        simp only [Act.put, List.setIfInBounds_toArray, List.set_cons_zero, List.set_cons_succ]
        refine wpS_fs rfl (Keeps.refl _ _) fun K hK => ?_
        simp only [List.map_cons, List.map_nil, Option.getD_some, List.getElem?_toArray, List.getElem?_cons_zero, List.getElem?_cons_succ]
        iterate 1 (first | (apply quietO_cons _ rfl; (intro w' hs; have c_0 := q1 w' hs; go_simp; rfl)) | apply quietO_skip rfl)
        refine hK _ ?_
        clear hK K
        simp only [Act.put, List.setIfInBounds_toArray, List.set_cons_zero, List.set_cons_succ]
        refine wpS_fs rfl (Keeps.refl _ _) fun K hK => ?_
        simp only [List.map_cons, List.map_nil, Option.getD_some, List.getElem?_toArray, List.getElem?_cons_zero, List.getElem?_cons_succ]
        iterate 1 (first | (apply quietO_cons _ rfl; (intro w' hs; have c_0 := q0 w' hs; go_simp; rfl)) | apply quietO_skip rfl)
        refine hK _ ?_
        clear hK K
        simp only [Act.put, List.setIfInBounds_toArray, List.set_cons_zero, List.set_cons_succ]
        refine wpS_ps rfl fun K hK => ?_
        simp only [List.map_cons, List.map_nil, Option.getD_some, List.getElem?_toArray, List.getElem?_cons_zero, List.getElem?_cons_succ]
        iterate 2 (first | (apply quietO_cons _ rfl; (intro w' _; go_simp; rfl)) | apply quietO_skip rfl)
        refine hK _ ?_
        clear hK K
        simp only [Act.put, List.setIfInBounds_toArray, List.set_cons_zero, List.set_cons_succ]
        clear q0 q1
        refine wpS_es rfl fun K hK => ?_
        have HK := Lib.hid hK
        clear hK
        simp only [List.map_cons, List.map_nil, Option.getD_some, List.getElem?_toArray, List.getElem?_cons_zero, List.getElem?_cons_succ]
        go_wp2_with fail
        refine HK.out _ _ (fun _ => ((Keeps.refl nowhere w5.drew).alloc _)) ?_
        clear HK K
        refine wpS_es rfl fun K hK => ?_
        have HK := Lib.hid hK
        clear hK
        simp only [List.map_cons, List.map_nil, Option.getD_some, List.getElem?_toArray, List.getElem?_cons_zero, List.getElem?_cons_succ]
        go_wp2_with (at_builtin; go_must (refine RecT.wpList_append Try.underlying90 infoWt rfl (by decide) rfl (.tmp 32) (.tmp 36) rfl _ wf rfl Hwa.out _ _ [(x, old)] rfl Hx1.out Hlb.out ?_))
        intro v7 w7 hrow7 hk7 hf7
        have hk8 : Keeps (fun b => (Value.slice B5 wf.length cb5).ownBlock = some b) w5 w7 := (Hka.out.mono (fun _ _ h => h.elim)).trans hk7 (fun _ _ h => h)
        have hf8 : From (Value.slice B5 wf.length cb5).ownBlock w5.heap.size v7.ownBlock := fun b hb => (hf7 b hb).imp (fun h => h) (fun h => by have := Hka.out.size; (try simp at this); (try simp at h); omega)
        obtain ⟨hb7, ht7, hk9⟩ := tab_setW Hb5.out Hu5.out Hw5.out hrow7 hk8
        have c7 : w7.cell? ⟨p, 1, none⟩ = some (.slice B5 wf.length cb5) := hb7.cell 1
        have z7 := hb7.frozen 1
        obtain ⟨A7, c7', rfl, -⟩ := hrow7.form
        obtain ⟨N7, hN7⟩ : ∃ N7, N7 = (wf ++ [(x, old)]).length := ⟨_, rfl⟩
        rw [← hN7] at ht7 hk9 hf8 ⊢
        rw [← E5.out] at ht7
        rw [← F5.out] at hk9 hf8
        clear hk7 hf7 hk8
        have HN7 := Lib.hid hN7
        have Hrow7 := Lib.hid hrow7
        have Hb7 := Lib.hid hb7
        have Ht7 := Lib.hid ht7
        have Hk9 := Lib.hid hk9
        have Hf8 := Lib.hid hf8
        clear hN7 hrow7 hb7 ht7 hk9 hf8
        go_wp2_with fail
        go_wp2_with fail
        refine HK.out _ _ (fun h => by cases h) ?_
        clear HK K
        refine wpS_nil ?_
        go_wp2_with fail
        go_ret
        exact ⟨by rw [HE.out]; rfl, _, by rw [HF.out]; exact Ht7.out, (Hkw4.out.trans Hk5.out (fun _ _ h => h.elim)).trans (keep3_3 Hk9.out) (fun _ _ h => h), Hf8.out.mono (by have := Hk5.out.size; have := Hsz4.out; omega)⟩
end Go.Proofs.Ytnccgmffgmfinaa
