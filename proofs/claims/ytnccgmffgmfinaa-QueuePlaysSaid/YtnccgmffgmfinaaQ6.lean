/-
  slices.DeleteFunc at jobs; sched's Drop.
-/
import Derived.Test.YtnccgmffgmfinaaQ5
namespace Go.Proofs.Ytnccgmffgmfinaa
open Go.RowKit Go.Shelf

/-- a predicate that reads nothing of the block `b` -/
def PredB (g : Nat) (lb : Array Value) (p : J → Bool) (b : Nat) (w : World) : Prop :=
  ∀ (W : World) (j : J), Keeps (only b) w W → Calls Try.prog g (#[j.v] ++ lb) W fun e w' => e = .returned (.bool (p j)) ∧ Keeps nowhere W w'
theorem PredB.k {g : Nat} {lb : Array Value} {p : J → Bool} {b : Nat} {w : World} (h : PredB g lb p b w) : PredK g lb p w := fun W j hk => h W j (hk.mono (fun _ _ h => h.elim))

theorem cellsJ_set : ∀ (l : List J) (i : Nat) (t : J), i < l.length → cellsJ (l.set i t) = ((((cellsJ l).set (i * 4) (.int .i64 t.c)).set (i * 4 + 1) (.int .u16 t.t)).set (i * 4 + 2) (.int .u16 t.o)).set (i * 4 + 3) (.bool t.s)
  | [], i, t, h => by simp at h
  | j :: l, 0, t, h => by simp [cellsJ, J.cs]
  | j :: l, i + 1, t, h => by
    have := cellsJ_set l i t (by simpa using h)
    simp only [cellsJ] at this ⊢
    rw [List.set_cons_succ, List.flatMap_cons, List.flatMap_cons, this]
    simp only [J.cs, List.cons_append, List.nil_append, show (i + 1) * 4 = i * 4 + 1 + 1 + 1 + 1 by omega, show i * 4 + 1 + 1 + 1 + 1 + 1 = (i * 4 + 1) + 1 + 1 + 1 + 1 by omega, show i * 4 + 1 + 1 + 1 + 1 + 2 = (i * 4 + 2) + 1 + 1 + 1 + 1 by omega, show i * 4 + 1 + 1 + 1 + 1 + 3 = (i * 4 + 3) + 1 + 1 + 1 + 1 by omega, List.set_cons_succ]

/-- a job is stored into a row -/
theorem row_store {w : World} {b cap : Nat} {l : List J} (hr : JRow w (.slice (some ⟨b, 0, none⟩) l.length cap) l) {i : Nat} (hi : i < l.length) (t : J) :
    (∀ k, k < 4 → (∃ u, w.cell? ⟨b, i * 4 + k, none⟩ = some u) ∧ w.frozen? ⟨b, i * 4 + k, none⟩ = false) ∧
    ∃ w', w' = (((w.setCell ⟨b, i * 4, none⟩ (.int .i64 t.c)).setCell ⟨b, i * 4 + 1, none⟩ (.int .u16 t.t)).setCell ⟨b, i * 4 + 2, none⟩ (.int .u16 t.o)).setCell ⟨b, i * 4 + 3, none⟩ (.bool t.s) ∧
      JRow w' (.slice (some ⟨b, 0, none⟩) l.length cap) (l.set i t) ∧ Keeps (only b) w w' := by
  rcases hr.blk with ⟨h, _⟩ | ⟨b', cap', rest, hv, hb, h1, h2, h3⟩
  · cases h
  · injection hv with ha _ hc
    injection ha with ha
    injection ha with ha
    subst ha hc
    refine ⟨fun k hk => ⟨?_, hb.frozen _⟩, _, rfl, ?_, ?_⟩
    · refine ⟨_, (hb.cell _).trans (Array.getElem?_eq_getElem ?_)⟩
      simp [cellsJ_len]; omega
    · have h := (((hb.set_ (i * 4) (.int .i64 t.c)).set_ (i * 4 + 1) (.int .u16 t.t)).set_ (i * 4 + 2) (.int .u16 t.o)).set_ (i * 4 + 3) (.bool t.s)
      simp only [List.setIfInBounds_toArray] at h
      rw [List.set_append_left _ _ (by rw [cellsJ_len]; omega), List.set_append_left _ _ (by simp [cellsJ_len]; omega), List.set_append_left _ _ (by simp [cellsJ_len]; omega), List.set_append_left _ _ (by simp [cellsJ_len]; omega), ← cellsJ_set l i t hi] at h
      have := JRow.of_blk (l := l.set i t) h (by rw [List.length_set]; exact h1) h3
      rwa [List.length_set] at this
    · exact ((((Keeps.refl (only b) w).setCell (p := ⟨b, i * 4, none⟩) (fun _ => rfl) _).setCell (p := ⟨b, i * 4 + 1, none⟩) (fun _ => rfl) _).setCell (p := ⟨b, i * 4 + 2, none⟩) (fun _ => rfl) _).setCell (p := ⟨b, i * 4 + 3, none⟩) (fun _ => rfl) _

/-- the row while it is sifted: the first `i` jobs are those that stay of the first `j`, from `j` on all is as it was -/
structure Sift (p : J → Bool) (l l' : List J) (i j : Nat) : Prop where
  len : l'.length = l.length
  jl : j ≤ l.length
  ij : i < j
  head : l'.take i = (l.take j).filter fun x => !p x
  tail : l'.drop j = l.drop j
theorem Sift.start {p : J → Bool} {l : List J} {i : Nat} (hi : i < l.length) (hp : p l[i] = true) (hn : ∀ j (hj : j < i), p (l[j]'(by omega)) = false) : Sift p l l i (i + 1) := by
  refine ⟨rfl, hi, by omega, ?_, rfl⟩
  rw [List.take_succ_eq_append_getElem hi, List.filter_append]
  have h1 : (l.take i).filter (fun x => !p x) = l.take i := by
    rw [List.filter_eq_self]
    intro x hx
    obtain ⟨j, hj, rfl⟩ := List.getElem_of_mem hx
    have : j < i := by simp at hj; omega
    rw [List.getElem_take, hn j this]; rfl
  rw [h1]
  simp [hp]
theorem Sift.get {p : J → Bool} {l l' : List J} {i j : Nat} (h : Sift p l l' i j) (hj : j < l.length) : l'[j]? = some l[j] := by
  have := congrArg (fun x => x[0]?) h.tail
  simp only [List.getElem?_drop, Nat.add_zero] at this
  rw [this]; exact List.getElem?_eq_getElem hj
theorem Sift.skip {p : J → Bool} {l l' : List J} {i j : Nat} (h : Sift p l l' i j) (hj : j < l.length) (hp : p l[j] = true) : Sift p l l' i (j + 1) := by
  refine ⟨h.len, hj, by have := h.ij; omega, ?_, ?_⟩
  · rw [h.head, List.take_succ_eq_append_getElem hj, List.filter_append]; simp [hp]
  · rw [← List.drop_drop, h.tail, List.drop_drop]
theorem Sift.keep {p : J → Bool} {l l' : List J} {i j : Nat} (h : Sift p l l' i j) (hj : j < l.length) (hp : p l[j] = false) : Sift p l (l'.set i l[j]) (i + 1) (j + 1) := by
  have hij := h.ij
  have hl := h.len
  have hil : i < (l'.set i l[j]).length := by rw [List.length_set]; omega
  refine ⟨by rw [List.length_set]; exact hl, hj, by omega, ?_, ?_⟩
  · rw [List.take_succ_eq_append_getElem hil, List.take_set_of_le (Nat.le_refl i), h.head, List.take_succ_eq_append_getElem hj, List.filter_append, List.getElem_set_self]
    simp [hp]
  · rw [List.drop_set_of_lt (by omega), ← List.drop_drop, h.tail, List.drop_drop]
theorem Sift.last {p : J → Bool} {l l' : List J} {i j : Nat} (h : Sift p l l' i j) (hj : j = l.length) : l'.take i = l.filter (fun x => !p x) ∧ i < l.length := by
  subst hj
  exact ⟨by rw [h.head, List.take_length], h.ij⟩
theorem filter_all {p : J → Bool} {l : List J} (h : ∀ t ∈ l, p t = false) : l.filter (fun x => !p x) = l := by
  rw [List.filter_eq_self]; intro x hx; rw [h x hx]; rfl

theorem row_take {w : World} {b cap : Nat} {l : List J} (hr : JRow w (.slice (some ⟨b, 0, none⟩) l.length cap) l) {i : Nat} (hi : i ≤ l.length) : JRow w (.slice (some ⟨b, 0, none⟩) (l.take i).length cap) (l.take i) := by
  rcases hr.blk with ⟨h, _⟩ | ⟨b', cap', rest, hv, hb, h1, h2, h3⟩
  · cases h
  · injection hv with ha _ hc
    injection ha with ha
    injection ha with ha
    subst ha hc
    have hti : (l.take i).length = i := by simp; omega
    refine JRow.of_blk (rest := cellsJ (l.drop i) ++ rest) ?_ ?_ h3
    · rw [← List.append_assoc, ← cellsJ_app, List.take_append_drop]; exact hb
    · rw [List.length_append, cellsJ_len, List.length_drop, hti]; omega

theorem row_at {w : World} {b cap n : Nat} {l : List J} (hr : JRow w (.slice (some ⟨b, 0, none⟩) n cap) l) {j : Nat} {t : J} (ht : l[j]? = some t) : JAt w b (j * 4) t := by
  obtain ⟨A, c, hv, _, _, _, h3, _⟩ := hr.rd
  obtain ⟨b', off, hA, _, hc⟩ := h3 (pos_of_get ht)
  injection hv with ha _ _
  rw [hA] at ha
  injection ha with ha
  injection ha with ha hb
  subst ha hb
  have := hc j t ht
  rwa [Nat.zero_add] at this

set_option maxRecDepth 8000 in
set_option maxHeartbeats 2000000 in
theorem jdelfunc_any (g : Nat) (lb : Array Value) (p : J → Bool) (eg : ∀ args w, (callFunc g args).run Try.prog w = .ok (.enter g args) w) (w : World) (b cap : Nat) (l : List J)
    (hr : JRow w (.slice (some ⟨b, 0, none⟩) l.length cap) l) (hl : l.length ≤ 1000000) (hp : PredB g lb p b w) :
    Calls Try.prog 47 #[.slice (some ⟨b, 0, none⟩) l.length cap, .func (.func g) #[] lb] w (RetDel b cap (l.filter fun x => !p x) w) := by
  have hI := jindex_any g lb p eg _ _ l w hr.rd (by omega) hp.k
  have hcap : l.length ≤ cap := by
    obtain ⟨A, c, hv, h1, h2, _⟩ := hr.rd
    injection hv with _ _ hc
    subst hc
    exact h1
  rcases idxP_cases p l with ⟨hix, hno⟩ | ⟨i, hi, hix, hpi, hpn⟩
  · rw [hix] at hI
    have hfa := filter_all hno
    have HI := Lib.hid hI
    have Hr := Lib.hid hr
    have Hfa := Lib.hid hfa
    have Hno := Lib.hid hno
    clear hI hr hfa hno
    go_enter Try.func47, Try.ntmps47
    go_wp2_with fail
    refine HI.out.mono ?_
    rintro e w1 ⟨rfl, hk⟩
    have hr1 := Hr.out.keep hk (fun _ _ h => h)
    have Hr1 := Lib.hid hr1
    have Hk := Lib.hid hk
    clear hr1 hk
    go_wp2_with fail
    go_ret
    exact ⟨by rw [Hfa.out]; rfl, by rw [Hfa.out]; exact Hr1.out, Hk.out.mono (fun _ _ h => h.elim)⟩
  · rw [hix] at hI
    have hs0 := Sift.start hi hpi hpn
    have hi1 : IntKind.i64.wrap ((i : Int) + 1) = (i + 1 : Nat) := by rw [show (i : Int) + 1 = ((i + 1 : Nat) : Int) by omega]; exact IntWalk.i64_in _ (by omega)
    have hine : ((i : Int) == -1) = false := by simp
    have hine2 : ¬ (i : Int) = -1 := by omega
    obtain ⟨L, hL⟩ : ∃ L, L = l.length := ⟨_, rfl⟩
    have HI := Lib.hid hI
    have Hp := Lib.hid hp
    have Hs0 := Lib.hid hs0
    have Hpi := Lib.hid hpi
    have Hpn := Lib.hid hpn
    clear hI hp hs0 hpi hpn
    rw [← hL] at hcap hl ⊢
    rw [← hL] at hr
    have HI' := HI.out
    rw [← hL] at HI'
    clear HI
    have hrL := hr
    have HL := Lib.hid hL
    have HrL := Lib.hid hrL
    clear hL hrL
    clear hr
    go_enter Try.func47, Try.ntmps47
    go_wp2_with fail
    refine HI'.mono ?_
    rintro e w1 ⟨rfl, hk⟩
    have hr1 := HrL.out.keep hk (fun _ _ h => h)
    have Hr1 := Lib.hid hr1
    have Hk := Lib.hid hk
    clear hr1 hk
    clear HI'
    go_wp2_with fail
    go_loopw [5, 6] (fun iv jv wr => ∃ (i j : Nat) (l' : List J), iv = .int .i64 i ∧ jv = .int .i64 j ∧ Sift p l l' i j ∧ JRow wr (.slice (some ⟨b, 0, none⟩) L cap) l' ∧ Keeps (only b) w wr) (fun _ jv _ => L - (intOf jv).toNat)
    case atStart => exact ⟨i, i + 1, l, rfl, by simp, Hs0.out, Hr1.out, Hk.out.mono (fun _ _ h => h.elim)⟩
    case round =>
      obtain ⟨i, j, l', rfl, rfl, hs, hrow, hkr⟩ := hrel
      have hsl := hs.len
      have hsj := hs.jl
      have hsi := hs.ij
      rw [← HL.out] at hsl hsj
      by_cases hlt : j < L
      · have hjl : j < l.length := by rw [← HL.out]; exact hlt
        have hltI : (j : Int) < L := by omega
        have hj0 : (0 : Int) ≤ (j : Int) := by omega
        have hi0 : (0 : Int) ≤ (i : Int) := by omega
        have hiI : (i : Int) < L := by omega
        have hj1 : IntKind.i64.wrap ((j : Int) + 1) = j + 1 := IntWalk.i64_in _ (by omega)
        have hi11 : IntKind.i64.wrap ((i : Int) + 1) = i + 1 := IntWalk.i64_in _ (by omega)
        obtain ⟨t, ht⟩ : ∃ t, t = l[j] := ⟨_, rfl⟩
        have hget := hs.get hjl
        rw [← ht] at hget
        obtain ⟨d0, d1, d2, d3⟩ := row_at hrow hget
        have hk1 := hkr.alloc (.cells #[.int .i64 t.c, .int .u16 t.t, .int .u16 t.o, .bool t.s] 45)
        have hbx := Blk.new wr 45 #[.int .i64 t.c, .int .u16 t.t, .int .u16 t.o, .bool t.s]
        have hrow1 := hrow.keep ((Keeps.refl nowhere wr).alloc (.cells #[.int .i64 t.c, .int .u16 t.t, .int .u16 t.o, .bool t.s] 45)) (fun _ _ h => h)
        have hcall := Hp.out _ t hk1
        unfold J.v at hcall
        cases hpt : p t with
        | true =>
          rw [hpt] at hcall
          have hs2 := hs.skip hjl (by rw [← ht]; exact hpt)
          have Hs := Lib.hid hs
          have Hk1 := Lib.hid hk1
          have Hbx := Lib.hid hbx
          have Hrow1 := Lib.hid hrow1
          have Hcall := Lib.hid hcall
          have Hs2 := Lib.hid hs2
          have Ht := Lib.hid ht
          have Hget := Lib.hid hget
          have Hrow := Lib.hid hrow
          have Hkr := Lib.hid hkr
          clear hs hk1 hbx hrow1 hcall hs2 ht hget hrow hkr
          go_wp2_with fail
          refine Hcall.out.mono ?_
          rintro e w2 ⟨rfl, hk2⟩
          have hk3 := Hk1.out.trans hk2 (fun _ _ h => h.elim)
          have hrow2 := Hrow1.out.keep hk2 (fun _ _ h => h)
          clear hk2
          have Hk3 := Lib.hid hk3
          have Hrow2 := Lib.hid hrow2
          clear hk3 hrow2
          go_wp2_with fail
          go_roundw
          case rel => exact ⟨i, j + 1, l', rfl, by simp, Hs2.out, Hrow2.out, Hk3.out⟩
          case measure => simp [intOf]; omega
        | false =>
          rw [hpt] at hcall
          have hs2 := hs.keep hjl (by rw [← ht]; exact hpt)
          rw [← ht] at hs2
          have Hs := Lib.hid hs
          have Hk1 := Lib.hid hk1
          have Hbx := Lib.hid hbx
          have Hrow1 := Lib.hid hrow1
          have Hcall := Lib.hid hcall
          have Hs2 := Lib.hid hs2
          have Ht := Lib.hid ht
          have Hget := Lib.hid hget
          have Hrow := Lib.hid hrow
          have Hkr := Lib.hid hkr
          clear hs hk1 hbx hrow1 hcall hs2 ht hget hrow hkr
          go_wp2_with fail
          refine Hcall.out.mono ?_
          rintro e w2 ⟨rfl, hk2⟩
          have hk3 := Hk1.out.trans hk2 (fun _ _ h => h.elim)
          have hrow2 := Hrow1.out.keep hk2 (fun _ _ h => h)
          have hbx2 := Hbx.out.keep hk2 (fun h => h)
          have e0 : w2.cell? ⟨wr.heap.size, 0, none⟩ = some (.int .i64 t.c) := by simpa using hbx2.cell 0
          have e1 : w2.cell? ⟨wr.heap.size, 1, none⟩ = some (.int .u16 t.t) := by simpa using hbx2.cell 1
          have e2 : w2.cell? ⟨wr.heap.size, 2, none⟩ = some (.int .u16 t.o) := by simpa using hbx2.cell 2
          have e3 : w2.cell? ⟨wr.heap.size, 3, none⟩ = some (.bool t.s) := by simpa using hbx2.cell 3
          rw [← hsl] at hrow2
          obtain ⟨hcs, w3, hw3, hrow3, hk4⟩ := row_store hrow2 (i := i) (by omega) t
          obtain ⟨⟨u0, z0⟩, y0⟩ := hcs 0 (by omega)
          obtain ⟨⟨u1, z1⟩, y1⟩ := hcs 1 (by omega)
          obtain ⟨⟨u2, z2⟩, y2⟩ := hcs 2 (by omega)
          obtain ⟨⟨u3, z3⟩, y3⟩ := hcs 3 (by omega)
          rw [Nat.add_zero] at z0 y0
          have hk5 := hk3.trans hk4 (fun _ _ h => h)
          rw [hsl] at hrow3
          clear hk2 hbx2 hk3 hrow2 hcs hk4
          have Hrow3 := Lib.hid hrow3
          have Hk5 := Lib.hid hk5
          have Hw3 := Lib.hid hw3
          clear hrow3 hk5 hw3
          go_wp2_with fail
          rw [← Hw3.out]
          go_roundw
          case rel => exact ⟨i + 1, j + 1, _, by simp, by simp, Hs2.out, Hrow3.out, Hk5.out⟩
          case measure => simp [intOf]; omega
      · have hjL : j = L := by omega
        obtain ⟨hfin, hil⟩ := hs.last (by rw [← HL.out]; exact hjL)
        rw [← HL.out] at hil
        have hrt : JRow wr (.slice (some ⟨b, 0, none⟩) (l'.take i).length cap) (l'.take i) := row_take (by rw [hsl]; exact hrow) (by omega)
        have hti : (l'.take i).length = i := by simp; omega
        obtain ⟨w2, hclear, hr2, hk2⟩ := row_clear wr b cap (L - i) (cap - i) (l'.take i) hrt (by omega) (by omega)
        rw [hti] at hclear hr2
        have hk3 := hkr.trans hk2 (fun _ _ h => h)
        rw [hfin] at hr2 hti
        have hj2 : ¬ (j : Int) < L := by omega
        have hi0 : (0 : Int) ≤ (i : Int) := by omega
        have hiI : (i : Int) ≤ L := by omega
        have hiC : (i : Int) ≤ cap := by omega
        have hic : ¬ cap = i := by omega
        have Hs := Lib.hid hs
        have Hrow := Lib.hid hrow
        have Hkr := Lib.hid hkr
        have Hfin := Lib.hid hfin
        have Hrt := Lib.hid hrt
        have Hti := Lib.hid hti
        have Hr2 := Lib.hid hr2
        have Hk3 := Lib.hid hk3
        clear hs hrow hkr hfin hrt hti hr2 hk3
        clear hk2
        go_wp2_with fail
        go_ret
        exact ⟨by rw [Hti.out]; rfl, by rw [Hti.out]; exact Hr2.out, Hk3.out⟩

def ofC (c : Int) (x : J) : Bool := decide (x.c = c)
theorem drop1_any (c : Int) (q b : Nat) (w : World) (hq : w.cell? ⟨q, 0, none⟩ = some (.int .i64 c)) (hql : q < w.heap.size) (hqb : q ≠ b) :
    PredB 48 #[.pointer (some ⟨q, 0, none⟩)] (ofC c) b w := fun W j hk => by
  have hk1 := (Keeps.refl nowhere W).alloc (.cells #[.int .i64 j.c, .int .u16 j.t, .int .u16 j.o, .bool j.s] 45)
  have ca := (hk1.cell (p := ⟨q, 0, none⟩) (Nat.lt_of_lt_of_le hql hk.size) (fun h => h)).trans ((hk.cell (p := ⟨q, 0, none⟩) hql (fun h => hqb h)).trans hq)
  obtain ⟨jc, jt, jo, js⟩ := j
  show Calls Try.prog _ #[.agg #[.int .i64 jc, .int .u16 jt, .int .u16 jo, .bool js], .pointer (some ⟨q, 0, none⟩)] W _
  simp only at ca hk1
  have hR : ofC c ⟨jc, jt, jo, js⟩ = (jc == c) := rfl
  have Hk1 := Lib.hid hk1
  have Hk := Lib.hid hk
  have HR := Lib.hid hR
  clear hk1 hk hR
  go_enter Try.func48, Try.ntmps48
  go_wp2_with fail
  go_ret
  exact ⟨by rw [HR.out]; rfl, Hk1.out⟩

def dropL (l : List J) (c : Int) : List J := l.filter fun x => !ofC c x
def RetDrop (p : Nat) (g : Option Nat) (l : List J) (c : Int) (w : World) : Ending → World → Prop := fun e w' =>
  e = .returned (.int .i64 ((l.length : Int) - (dropL l c).length)) ∧ QAt w' p g (dropL l c) ∧ Keeps (only2 p g) w w'

set_option maxHeartbeats 1000000 in
theorem qdrop_any (w : World) (p : Nat) (g : Option Nat) (l : List J) (c : Int) (h : QAt w p g l) (hl : l.length ≤ 512) :
    Calls Try.prog 28 #[qp p, .int .i64 c] w (RetDrop p g l c w) := by
  have eg : ∀ args w, (callFunc 48 args).run Try.prog w = .ok (.enter 48 args) w := enters_of Try.func48 (by kernel_rfl) rfl
  have hk := (Keeps.refl nowhere w).alloc (.cells #[.int .i64 c] 3)
  have hlt := h.lt
  obtain ⟨v, h1, h2, hgv⟩ := h
  have hb1 := h1.keep hk (fun h => h)
  have hr1 := h2.keep hk (fun _ _ h => h)
  rcases hr1.blk with ⟨hv, hnil⟩ | ⟨b, cap, rest, hv, hbb, _, hlc, hcm⟩
  · subst hnil
    subst hv
    have hP := (drop1_any c w.heap.size (w.heap.size + 1) (w.alloc (.cells #[.int .i64 c] 3)) (by simp) (by simp) (by omega)).k
    have hP' : PredK 48 #[.pointer (some ⟨w.heap.size, 0, none⟩)] (ofC c) (w.alloc (.cells #[.int .i64 c] 3)) := hP
    have hD : Calls Try.prog 47 #[.slice none 0 0, .func (.func 48) #[] #[.pointer (some ⟨w.heap.size, 0, none⟩)]] (w.alloc (.cells #[.int .i64 c] 3)) fun e w' => e = .returned (.slice none 0 0) ∧ Keeps nowhere (w.alloc (.cells #[.int .i64 c] 3)) w' := by
      have hI := jindex_any _ _ _ eg _ _ [] _ (JRd.nil _) (by simp) hP'
      rw [show idxP (ofC c) ([] : List J) = -1 from rfl] at hI
      have HI := Lib.hid hI
      have HP := Lib.hid hP
      have HP' := Lib.hid hP'
      have Hk := Lib.hid hk
      have Hlt := Lib.hid hlt
      have Hb1 := Lib.hid hb1
      have Hr1 := Lib.hid hr1
      have H1 := Lib.hid h1
      have H2 := Lib.hid h2
      have Hgv := Lib.hid hgv
      clear hI hP hP' hk hlt hb1 hr1 h1 h2 hgv
      clear eg
      go_enter Try.func47, Try.ntmps47
      go_wp2_with fail
      refine HI.out.mono ?_
      rintro e w1 ⟨rfl, hk⟩
      have Hk := Lib.hid hk
      clear hk
      go_wp2_with fail
      go_ret
      exact ⟨rfl, Hk.out⟩
    have c0 := hb1.cell 0
    simp at c0
    unfold qp
    clear eg hP hP' h1 h2
    have HD := Lib.hid hD
    have Hk := Lib.hid hk
    have Hb1 := Lib.hid hb1
    have Hgv := Lib.hid hgv
    have Hlt := Lib.hid hlt
    clear hD hk hb1 hgv hlt
    go_enter Try.func28, Try.ntmps28
    go_wp2_with fail
    refine HD.out.mono ?_
    rintro e w1 ⟨rfl, hk1⟩
    have hb2 := Hb1.out.keep hk1 (fun h => h)
    have c1 := hb2.cell 0
    have f1 := hb2.frozen 0
    simp at c1
    have hb3 := hb2.set_ 0 (.slice none 0 0)
    have hk3 := ((Hk.out.more hk1).mono (T := only2 p g) (fun _ _ h => h.elim)).setCell (p := ⟨p, 0, none⟩) (fun _ => .inl rfl) (.slice none 0 0)
    clear hk1
    simp at hb3
    have Hb2 := Lib.hid hb2
    have Hb3 := Lib.hid hb3
    have Hk3 := Lib.hid hk3
    clear hb2 hb3 hk3
    go_wp2_with fail
    go_ret
    exact ⟨rfl, ⟨_, Hb3.out, JRow.nil _, Hgv.out⟩, Hk3.out⟩
  · have hbp : b ≠ p := by
      have hne := hlt.2.2
      rw [hgv, hv] at hne
      exact fun e => hne (by rw [e]; rfl)
    have hbw : b < w.heap.size := hlt.2.1 b (by rw [hgv, hv]; rfl)
    rw [hv] at hb1 hr1
    have hP := drop1_any c w.heap.size b (w.alloc (.cells #[.int .i64 c] 3)) (by simp) (by simp) (by omega)
    have hD := jdelfunc_any _ _ _ eg _ b cap l hr1 (by omega) hP
    have c0 := hb1.cell 0
    simp at c0
    have hfl : (l.filter fun x => !ofC c x).length ≤ l.length := List.length_filter_le _ _
    have hsub : IntKind.i64.wrap ((l.length : Int) - ((l.filter fun x => !ofC c x).length : Int)) = (l.length : Int) - ((l.filter fun x => !ofC c x).length : Int) := IntWalk.i64_in _ (by omega)
    have hDl : dropL l c = l.filter fun x => !ofC c x := rfl
    unfold qp
    clear eg hP h1 h2 hbb
    generalize (l.filter fun x => !ofC c x) = l2 at *
    have HD := Lib.hid hD
    have Hk := Lib.hid hk
    have Hb1 := Lib.hid hb1
    have Hr1 := Lib.hid hr1
    have Hgv := Lib.hid hgv
    have Hv := Lib.hid hv
    have Hlt := Lib.hid hlt
    have HDl := Lib.hid hDl
    clear hD hk hb1 hr1 hgv hv hlt hDl
    go_enter Try.func28, Try.ntmps28
    go_wp2_with fail
    refine HD.out.mono ?_
    rintro e w2 ⟨rfl, hr2, hk2⟩
    obtain ⟨z0, z1, hq3, hk3⟩ := qat_cut Hb1.out hr2 hk2 hbp Hk.out
    clear hr2 hk2
    have Hq3 := Lib.hid hq3
    have Hk3 := Lib.hid hk3
    clear hq3 hk3
    go_wp2_with fail
    go_ret
    refine ⟨by rw [HDl.out]; rfl, ?_, ?_⟩
    · rw [HDl.out, Hgv.out, Hv.out]; exact Hq3.out
    · rw [Hgv.out, Hv.out]; exact Hk3.out
end Go.Proofs.Ytnccgmffgmfinaa
