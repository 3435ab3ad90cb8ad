/-
  frame: Feed.
-/
import Derived.Test.YtblmbchjafffbaaF1
namespace Go.Proofs.Ytblmbchjafffbaa
open Go.RowKit

/-- a stream's own law -/
def feedS (m : Nat) (L : List UInt8) (d : Bool) (B : List UInt8) : List (List UInt8) × List UInt8 × Bool := if d then ([], L, true) else feed m (L ++ B)

def RetFeed (T : TypeId) (w : World) (p : Nat) (g : Option Nat) (r : List (List UInt8) × List UInt8 × Bool) : Ending → World → Prop := fun e w' =>
  ∃ v g', e = .returned v ∧ Heap w' w.heap.size v r.1 ∧ StAt T w' p g' r.2.1 r.2.2 ∧ From g w.heap.size g' ∧ Keeps (only p) w w'

/-- how much the stream at `p` holds -/
def heldLen (w : World) (p : Nat) : Nat := match w.cell? ⟨p, 0, none⟩ with
  | some (.slice _ n _) => n
  | _ => 0
theorem StAt.held {T : TypeId} {w : World} {p : Nat} {g : Option Nat} {L : List UInt8} {d : Bool} (h : StAt T w p g L d) : heldLen w p = L.length := by
  obtain ⟨v, hb, hr, _⟩ := h
  have hc0 := hb.cell 0
  simp at hc0
  obtain ⟨A, c, rfl, _⟩ := hr.form
  unfold heldLen
  rw [hc0, List.length_map]

set_option maxHeartbeats 400000 in
theorem feed_done (p : Nat) (g : Option Nat) (L B : List UInt8) (m : Nat) (v1 : Value) (w : World) (h : StAt 84 w p g L true) :
    Calls Try.prog 18 #[.pointer (some ⟨p, 0, none⟩), v1, .int .i64 m] w (RetFeed 84 w p g (feedS m L true B)) := by
  have hS := h
  obtain ⟨v, hb, hr, _⟩ := h
  have hc1 := hb.cell 1
  simp at hc1
  have HS := Lib.hid hS
  clear hS
  clear hr hb
  go_enter Try.func18, Try.ntmps18
  go_wp2
  go_ret
  exact ⟨_, g, rfl, Heap.nil _ _, HS.out, From.refl _ _, Keeps.refl _ _⟩

set_option maxHeartbeats 1600000 in
set_option maxRecDepth 8000 in
theorem feed_live (p : Nat) (g g1 : Option Nat) (L B : List UInt8) (m : Nat) (v1 : Value) (w : World) (h : StAt 84 w p g L false) (hr1 : Rd w v1 g1 (B.map bv)) (hm : m ≤ 65535) (hlb : L.length + B.length ≤ 1099511627776) :
    Calls Try.prog 18 #[.pointer (some ⟨p, 0, none⟩), v1, .int .i64 m] w (RetFeed 84 w p g (feed m (L ++ B))) := by
  obtain ⟨v, hb, hr, hgp⟩ := h
  have hc0 := hb.cell 0
  have hc1 := hb.cell 1
  simp at hc0 hc1
  obtain ⟨A, c, rfl, -⟩ := hr.form
  obtain ⟨A1, c1, rfl, -⟩ := hr1.form
  rw [List.length_map] at *
  have Hb := Lib.hid hb
  have Hr := Lib.hid hr
  have Hgp := Lib.hid hgp
  have Hr1 := Lib.hid hr1
  clear hb hr hgp hr1
  go_enter_defers Try.func18, Try.ntmps18
  go_wp2_with fail
  have hka := (Keeps.refl nowhere w).alloc (.cells #[.slice A L.length c, .slice A1 B.length c1] 24)
  go_wp2_with fail
  refine (concat_any _ _ [.slice A L.length c, .slice A1 B.length c1] [L, B] (fun _ => True) _ (Rd.full (heap_alloc_new w (.cells #[.slice A L.length c, .slice A1 B.length c1] 24)) (by simp [maxLen])) (Parts.two (Hr.out.keep hka fun _ _ h => h) (Hr1.out.keep hka fun _ _ h => h)) (by simp) (by simp [tot]; exact hlb)).mono ?_
  rintro e w1 ⟨v2, rfl, hown2, hab2, hk2⟩
  obtain ⟨A2, c2, rfl, -⟩ := hown2.form'
  have hfl : [L, B].flatten = L ++ B := by simp
  rw [hfl] at hown2 hab2 ⊢
  obtain ⟨n2, hn2⟩ : ∃ n2, n2 = (L ++ B).length := ⟨_, rfl⟩
  rw [← hn2] at hown2 hab2 ⊢
  have Hn2 := Lib.hid hn2
  clear hn2
  have hk1 : Keeps nowhere w w1 := hka.more hk2
  have hb1 := Hb.out.keep hk1 (fun h => h)
  have hcc := hb1.cell 0
  have hff := hb1.frozen 0
  simp at hcc
  have hplt := Hb.out.lt
  have hab : Above w.heap.size (Value.ownBlock (.slice A2 n2 c2)) := hab2.mono (by simp)
  have hst := StAt.set0 (T := 84) hb1 hown2.rd (fun e => by have := hab p e; omega)
  have hk3 : Keeps (only p) w (w1.setCell ⟨p, 0, none⟩ (.slice A2 n2 c2)) := (hk1.mono (T := only p) fun _ _ h => h.elim).setCell (p := ⟨p, 0, none⟩) (fun _ => rfl) _
  have Hka := Lib.hid hka
  have Hown2 := Lib.hid hown2
  have Hab2 := Lib.hid hab2
  have Hk2 := Lib.hid hk2
  have Hfl := Lib.hid hfl
  have Hk1 := Lib.hid hk1
  have Hb1 := Lib.hid hb1
  have Hab := Lib.hid hab
  have Hst := Lib.hid hst
  have Hk3 := Lib.hid hk3
  clear hka hown2 hab2 hk2 hfl hk1 hb1 hab hst hk3
  clear hc0 hc1
  go_wp2_with fail
  go_loopw [6] (fun o wr => ∃ (Ls : List (List UInt8)) (R : List UInt8) (gr : Option Nat), Heap wr w.heap.size o Ls ∧ StAt 84 wr p gr R false ∧ Above w.heap.size gr ∧ (∀ b, gr = some b → o.ownBlock ≠ some b) ∧ Keeps (only p) w wr ∧
      feed m (L ++ B) = (Ls ++ (feed m R).1, (feed m R).2) ∧ Ls.length + R.length ≤ L.length + B.length) (fun _ wr => heldLen wr p)
  case atStart => exact ⟨[], L ++ B, _, Heap.nil _ _, Hst.out, Hab.out, fun b _ h => (by cases h), Hk3.out, by simp, by simp⟩
  case round =>
    obtain ⟨Ls, R, gr, hh, hs, hgr, hne, hk, hf, hlen⟩ := hrel
    have hheld := hs.held
    have hlt := hs.lt
    have hS := hs
    have Hh := Lib.hid hh
    have HS := Lib.hid hS
    have Hgr := Lib.hid hgr
    have Hne := Lib.hid hne
    have Hk := Lib.hid hk
    have Hf := Lib.hid hf
    have Hheld := Lib.hid hheld
    have Hlt := Lib.hid hlt
    clear hh hS hgr hne hk hf hheld hlt
    clear hs hcc hff
    go_wp2_with fail
    refine (next_any p gr R false m _ HS.out hm (by omega)).mono ?_
    rintro e w3 hn
    rcases hn with ⟨hcond, rfl, hk3⟩ | ⟨hcond, rfl, hk3⟩ | ⟨hcond, v3, g3, rfl, hr3, hab3, hs3, hk3⟩
    · have hfin : RetFeed 84 w p g (feed m (L ++ B)) (.returned u6) w3 := by
        rw [Hf.out, feed_wait hcond]
        refine ⟨u6, gr, rfl, by simpa using Hh.out.keep hk3 (fun _ _ h => h), HS.out.keep0 hk3, fun b hb => .inr (Hgr.out b hb), Hk.out.trans hk3 fun _ _ h => h.elim⟩
      have Hcond := Lib.hid hcond
      have Hk3 := Lib.hid hk3
      have Hfin := Lib.hid hfin
      clear hcond hk3 hfin
      go_wp2_with fail
      refine leaves_cons (f := 44) (args := #[.pointer (some ⟨p, 0, none⟩)]) (by simp) (by simp [go_sem]) ?_
      refine (f_caught_idle p w3).mono ?_
      rintro e u' w'' ⟨rfl, rfl, rfl⟩
      simp [Leaves, settle, results, Try.results18, go_sem]
      exact Hfin.out
    · have hS3 := HS.out.keep0 hk3
      obtain ⟨v4, hb4, hr4, -⟩ := hS3
      refine leaves_cons (f := 44) (args := #[.pointer (some ⟨p, 0, none⟩)]) (by simp) (by simp [go_sem]) ?_
      refine (f_caught_panic p v4 false [] w3 hb4).mono ?_
      rintro e u' w'' ⟨rfl, rfl, hs5, hk5⟩
      have hfin : RetFeed 84 w p g (feed m (L ++ B)) (.returned u6) w'' := by
        rw [Hf.out, feed_dead hcond]
        refine ⟨u6, none, rfl, ?_, hs5, fun b hb => (by cases hb), (Hk.out.trans hk3 fun _ _ h => h.elim).trans hk5 fun _ _ h => h⟩
        simpa using (Hh.out.keep hk3 (fun _ _ h => h)).keep hk5 (fun b hb h => by unfold only at h; omega)
      simp [Leaves, settle, results, Try.results18, go_sem]
      exact hfin
    · have hk' : Keeps (only p) w w3 := Hk.out.trans hk3 fun _ _ h => h
      have hh3 : Heap w3 w.heap.size u6 Ls := Hh.out.keep hk3 (fun b hb h => by unfold only at h; omega)
      have hfc := Hf.out
      rw [feed_cut hcond] at hfc
      obtain ⟨A3, c3, rfl, -⟩ := hr3.form
      rw [List.length_map] at *
      obtain ⟨n3, hn3⟩ : ∃ n3, n3 = (List.take (sizeN R - 4) (List.drop 4 R)).length := ⟨_, rfl⟩
      rw [← hn3] at hr3 ⊢
      have hulen : ∀ b, u6.ownBlock = some b → b < wr.heap.size := fun b hb => by
        obtain ⟨vs, h1, _⟩ := Hh.out
        exact h1.lt b hb
      have hka3 := (Keeps.refl nowhere w3).alloc (.cells #[.slice A3 n3 c3] 24)
      have hh4 := hh3.keep hka3 (fun _ _ h => h)
      have hp4 : Parts (w3.alloc (.cells #[.slice A3 n3 c3] 24)) (fun b => w.heap.size ≤ b ∧ u6.ownBlock ≠ some b) [.slice A3 n3 c3] [List.take (sizeN R - 4) (List.drop 4 R)] :=
        (Parts.nil _ _).snoc (hr3.keep hka3 fun _ _ h => h) fun b hb => ⟨Nat.le_trans Hk.out.size (hab3 b hb), fun e => by have := hulen b e; have := hab3 b hb; omega⟩
      have hs4 := hs3.keep0 hka3
      have hsz3 := hk3.size
      have hdl : (R.drop (sizeN R)).length + 7 ≤ R.length := by rw [List.length_drop]; omega
      have hsz0 := Hk.out.size
      have Hcond := Lib.hid hcond
      have Hr3 := Lib.hid hr3
      have Hab3 := Lib.hid hab3
      have Hs3 := Lib.hid hs3
      have Hk3 := Lib.hid hk3
      have Hk' := Lib.hid hk'
      have Hh3 := Lib.hid hh3
      have Hfc := Lib.hid hfc
      have Hn3 := Lib.hid hn3
      have Hulen := Lib.hid hulen
      have Hka3 := Lib.hid hka3
      have Hh4 := Lib.hid hh4
      have Hp4 := Lib.hid hp4
      have Hs4 := Lib.hid hs4
      have Hsz3 := Lib.hid hsz3
      have Hdl := Lib.hid hdl
      have Hsz0 := Lib.hid hsz0
      clear hcond hr3 hab3 hs3 hk3 hk' hh3 hfc hn3 hulen hka3 hh4 hp4 hs4 hsz3 hdl hsz0
      go_wp2_with (at_builtin; go_must (refine wpList_append_parts rfl (.tmp 33) (.tmp 35) rfl w.heap.size u6 Ls rfl Hh4.out ?hN _ _ _ _ rfl (Rd.full (heap_alloc_new w3 (.cells #[.slice A3 n3 c3] 24)) (by simp [maxLen])) Hp4.out ?hb ?_))
      case hN => have := Hsz3.out; have := Hsz0.out; simp; omega
      case hb => have := Hdl.out; simp; omega
      intro v' w' hh5 hk5 hf5
      have hs5 : StAt 84 w' p gr (R.drop (sizeN R)) false := Hs4.out.keep hk5 (fun e => by have := Hh.out; obtain ⟨vs, _, _, h3⟩ := this; have := h3 p e; omega) (fun b hb e => Hne.out b hb e)
      have hk6 : Keeps (only p) w w' := (Hk'.out.alloc _).trans hk5 fun b hb e => by have := Hh.out; obtain ⟨vs, _, _, h3⟩ := this; have := h3 b e; omega
      have hne5 : ∀ b, gr = some b → v'.ownBlock ≠ some b := fun b hb e => (hf5 b e).elim (fun e' => Hne.out b hb e') (fun h => by have := Hlt.out.2 b hb; have := Hsz3.out; have := Hka3.out.size; omega)
      have hheld5 := hs5.held
      have Hh5 := Lib.hid hh5
      have Hk5 := Lib.hid hk5
      have Hf5 := Lib.hid hf5
      have Hs5 := Lib.hid hs5
      have Hk6 := Lib.hid hk6
      have Hne5 := Lib.hid hne5
      have Hheld5 := Lib.hid hheld5
      clear hh5 hk5 hf5 hs5 hk6 hne5 hheld5
      go_wp2_with fail
      go_roundw
      case rel =>
        refine ⟨_, _, gr, Hh5.out, Hs5.out, Hgr.out, Hne5.out, Hk6.out, ?_, ?_⟩
        · rw [Hfc.out]; simp
        · have := Hdl.out; simp only [List.length_append, List.length_cons, List.length_nil]; omega
      case measure => rw [Hheld.out, Hheld5.out]; have := Hdl.out; omega
end Go.Proofs.Ytblmbchjafffbaa
