/-
  frame: a stream in memory; 'next' cuts the first body, or tells by a panic that the size may not be.
-/
import Derived.Test.YtblmbchjafffbaaCat
namespace Go.Proofs.Ytblmbchjafffbaa
open Go.RowKit

/-- At block `p` a stream (of the struct type `T`) lies that holds `L`; is it dead? -/
def StAt (T : TypeId) (w : World) (p : Nat) (g : Option Nat) (L : List UInt8) (d : Bool) : Prop :=
  ∃ v, Blk w p T #[v, .bool d] ∧ Rd w v g (L.map bv) ∧ g ≠ some p

section
variable {T : TypeId} {w w' : World} {p : Nat} {g : Option Nat} {L : List UInt8} {d : Bool}
theorem StAt.lt (h : StAt T w p g L d) : p < w.heap.size ∧ Under w.heap.size g := by
  obtain ⟨v, hb, hr, _⟩ := h
  exact ⟨hb.lt, hr.lt⟩
theorem StAt.keep {S : Nat → Prop} (h : StAt T w p g L d) (hk : Keeps S w w') (hp : ¬ S p) (hg : ∀ b, g = some b → ¬ S b) : StAt T w' p g L d := by
  obtain ⟨v, hb, hr, hn⟩ := h
  exact ⟨v, hb.keep hk hp, hr.keep hk hg, hn⟩
theorem StAt.keep0 (h : StAt T w p g L d) (hk : Keeps nowhere w w') : StAt T w' p g L d := h.keep hk (fun h => h) fun _ _ h => h
theorem StAt.new (T : TypeId) (w : World) : StAt T (w.alloc (.cells #[.slice none 0 0, .bool false] T)) w.heap.size none [] false :=
  ⟨_, Blk.new _ _ _, Rd.nil _, by simp⟩
theorem StAt.set0 {v0 v : Value} {g' : Option Nat} {L' : List UInt8} (hb : Blk w p T #[v0, .bool d]) (hr : Rd w v g' (L'.map bv)) (hg : g' ≠ some p) : StAt T (w.setCell ⟨p, 0, none⟩ v) p g' L' d :=
  ⟨v, by simpa using hb.set_ 0 v, hr.keep ((Keeps.refl (only p) w).setCell (p := ⟨p, 0, none⟩) (fun _ => rfl) v) (fun b hb' e => hg (by rw [hb']; exact congrArg some e)), hg⟩
end

/-- the size that stands ahead -/
def sizeN (L : List UInt8) : Nat := le (L.take 4)

def panicDies : Ending := .panicked [{ v := .iface 100 (.agg #[]), recovered := false }]

/-- what next does -/
def RetNext (w : World) (p : Nat) (g : Option Nat) (L : List UInt8) (d : Bool) (m : Nat) : Ending → World → Prop := fun e w' =>
  (L.length < 4 ∨ (7 ≤ sizeN L ∧ sizeN L ≤ m ∧ L.length < sizeN L)) ∧ e = .returned (.tuple #[.slice none 0 0, .bool false]) ∧ Keeps nowhere w w' ∨
  (4 ≤ L.length ∧ (sizeN L < 7 ∨ m < sizeN L)) ∧ e = panicDies ∧ Keeps nowhere w w' ∨
  (7 ≤ sizeN L ∧ sizeN L ≤ m ∧ sizeN L ≤ L.length) ∧ ∃ v g', e = .returned (.tuple #[v, .bool true]) ∧ Rd w' v g' (((L.drop 4).take (sizeN L - 4)).map bv) ∧ Above w.heap.size g' ∧ StAt 84 w' p g (L.drop (sizeN L)) d ∧ Keeps (only p) w w'

set_option maxHeartbeats 800000 in
set_option maxRecDepth 8000 in
theorem next_any (p : Nat) (g : Option Nat) (L : List UInt8) (d : Bool) (m : Nat) (w : World) (h : StAt 84 w p g L d) (hm : m ≤ 65535) (hb : L.length ≤ 1099511627776) :
    Calls Try.prog 46 #[.pointer (some ⟨p, 0, none⟩), .int .i64 m] w (RetNext w p g L d m) := by
  have hS := h
  obtain ⟨v, hbk, hr, hgp⟩ := h
  have hc0 := hbk.cell 0
  simp at hc0
  by_cases h4 : L.length < 4
  · obtain ⟨A, c, rfl, _⟩ := hr.form
    rw [List.length_map] at hc0
    have h4' : (L.length : Int) < 4 := by omega
    have HS := Lib.hid hS
    have Hbk := Lib.hid hbk
    have Hr := Lib.hid hr
    have Hgp := Lib.hid hgp
    clear hS hbk hr hgp
    go_enter Try.func46, Try.ntmps46
    go_wp2
    go_ret2
    exact .inl ⟨.inl h4, rfl, Keeps.refl _ _⟩
  · have h4' : ¬ (L.length : Int) < 4 := by omega
    obtain ⟨b, off, cap, rfl, rfl, hlt, hl, hcm, hcell⟩ := hr.plain (by rw [List.length_map]; omega)
    rw [List.length_map] at hc0 hl hr hbk
    have HS := Lib.hid hS
    have Hbk := Lib.hid hbk
    have Hr := Lib.hid hr
    have Hgp := Lib.hid hgp
    have Hcell := Lib.hid hcell
    clear hS hbk hr hgp hcell
    go_enter Try.func46, Try.ntmps46
    go_wp2_with fail
    refine (in_of _ _ L _ Hr.out hb).mono ?_
    rintro e w1 ⟨q, gq, rfl, hin, hq, hgq, hk1⟩
    have hin' := hin
    have Hin := Lib.hid hin
    have Hq := Lib.hid hq
    have Hgq := Lib.hid hgq
    have Hk1 := Lib.hid hk1
    clear hin hq hgq hk1
    go_wp2_with fail
    refine (take_ok q gq L 4 _ Hin.out (by omega) (by omega) (by omega)).mono ?_
    rintro e w2 ⟨rfl, -, hk2⟩
    have hv : takeVal L 0 (4 : Nat) = sizeN L := by rw [takeVal, if_pos ⟨rfl, by omega, by omega, by omega⟩]; rfl
    have hk := Hk1.out.fresh hk2 Hq.out
    have hbk2 := Hbk.out.keep hk (fun h => h)
    have hr2 := Hr.out.keep hk (fun _ _ h => h)
    have hS2 := HS.out.keep0 hk
    have hc2 := hbk2.cell 0
    simp at hc2
    rw [hv]
    have hN : sizeN L < 4294967296 := by
      have := le_lt (L.take 4)
      rw [List.length_take, Nat.min_eq_left (by omega)] at this
      exact this
    have hwm : IntKind.u64.wrap (m : Int) = m := IntWalk.u64_in _ (by omega)
    have hwl : IntKind.u64.wrap (L.length : Int) = L.length := IntWalk.u64_in _ (by omega)
    have hm0 : ¬ (m : Int) < 0 := by omega
    obtain ⟨N, hNd⟩ : ∃ N, N = sizeN L := ⟨_, rfl⟩
    rw [← hNd] at hN
    rw [← hNd]
    have hmi : ∀ w, (Instr.makeInterface 100 (.agg #[])).run Try.prog w = .ok (.iface 100 (.agg #[])) w := fun _ => by kernel_rfl
    have Hk := Lib.hid hk
    have Hbk2 := Lib.hid hbk2
    have Hr2 := Lib.hid hr2
    have HS2 := Lib.hid hS2
    have Hk2 := Lib.hid hk2
    have Hin' := Lib.hid hin'
    have HNd := Lib.hid hNd
    have Hv := Lib.hid hv
    clear hk hbk2 hr2 hS2 hk2 hin' hNd hv
    clear Hin Hk1 Hk2 Hq Hgq Hin' Hv HS Hbk Hr Hcell hc0
    by_cases hbad : N < 7 ∨ m < N
    · have hfin : RetNext w p (some b) L d m panicDies w2 := .inr (.inl ⟨⟨by omega, by rw [← HNd.out]; exact hbad⟩, rfl, Hk.out⟩)
      have Hfin := Lib.hid hfin
      clear hfin
      by_cases h7 : N < 7
      · have h7' : (N : Int) < 7 := by omega
        go_wp2
        exact ⟨rfl, Hfin.out⟩
      · have h7' : ¬ (N : Int) < 7 := by omega
        have h8' : (m : Int) < N := by omega
        go_wp2
        exact ⟨rfl, Hfin.out⟩
    · have h7' : ¬ (N : Int) < 7 := by omega
      have h8' : ¬ (m : Int) < N := by omega
      by_cases hsh : L.length < N
      · have hsh' : (L.length : Int) < N := by omega
        go_wp2
        go_ret2
        exact .inl ⟨.inr (by rw [← HNd.out]; omega), rfl, Hk.out⟩
      · have hsh' : ¬ (L.length : Int) < N := by omega
        have hM : (((L.drop 4).take (N - 4)).map bv).length = N - 4 := by simp; omega
        have hsub : Rd w2 (.slice (some ⟨b, off + 4, none⟩) (N - 4) (cap - 4)) (some b) (((L.drop 4).take (N - 4)).map bv) := by
          have h1 := Hr2.out.drop 4 (by simp; omega) _ _ _ rfl
          rw [if_neg (by omega)] at h1
          have h2 := h1.take (N - 4) (by simp; omega) _ _ _ rfl
          simpa [List.map_take, List.map_drop, Addr.add_lit] using h2
        have hrest : Rd w2 (.slice (if cap = N then some ⟨b, off, none⟩ else some ⟨b, off + N, none⟩) (L.length - N) (cap - N)) (some b) ((L.drop N).map bv) := by
          have h1 := Hr2.out.drop N (by simp; omega) _ _ _ rfl
          simpa [List.map_take, List.map_drop, Addr.add_lit] using h1
        have Hsub := Lib.hid hsub
        have Hrest := Lib.hid hrest
        have HM := Lib.hid hM
        clear hsub hrest hM
        go_wp2_with fail
        refine (clone_any _ _ _ _ Hsub.out (by simp; omega)).mono ?_
        rintro e w3 ⟨v3, g3, rfl, hr3, hf3, hk3⟩
        have hbk3 := Hbk2.out.keep hk3 (fun h => h)
        have hc3 := hbk3.cell 0
        have hz3 := hbk3.frozen 0
        simp at hc3
        have Hr3 := Lib.hid hr3
        have Hf3 := Lib.hid hf3
        have Hk3 := Lib.hid hk3
        have Hbk3 := Lib.hid hbk3
        clear hr3 hf3 hk3 hbk3
        clear hc2
        go_wp2_with fail
        refine (clip_any _ _ _ _ Hr3.out).mono ?_
        rintro e w4 ⟨⟨v4, rfl, hr4⟩, rfl⟩
        have hrest3 := Hrest.out.keep Hk3.out (fun _ _ h => h)
        have hgk := Hgp.out
        have hfin : ∀ v5, Rd w3 v5 (some b) ((L.drop N).map bv) → RetNext w p (some b) L d m (.returned (.tuple #[v4, .bool true])) (w3.setCell ⟨p, 0, none⟩ v5) := fun v5 h5 => by
          have hk5 := (Keeps.refl (only p) w3).setCell (p := ⟨p, 0, none⟩) (fun _ => rfl) v5
          have hpl := Hbk2.out.lt
          have hk6 : Keeps nowhere w w3 := Hk.out.more Hk3.out
          have hg3 : ∀ x, g3 = some x → ¬ only p x := fun x hx h => by have := Hf3.out x hx; unfold only at h; omega
          have hN' := HNd.out
          subst hN'
          refine .inr (.inr ⟨⟨by omega, by omega, by omega⟩, v4, g3, rfl, hr4.keep hk5 hg3, fun x hx => Nat.le_trans Hk.out.size (Hf3.out x hx), StAt.set0 Hbk3.out h5 hgk, (hk6.mono (fun _ _ h => h.elim)).trans hk5 (fun _ _ h => h)⟩)
        have Hfin := Lib.hid hfin
        have Hrest3 := Lib.hid hrest3
        clear hfin hrest3
        by_cases hcn : cap = N
        · subst hcn
          go_wp2
          go_ret2
          have h := Hrest3.out
          have h0 : L.length - cap = 0 := by omega
          simp only [if_true, Nat.sub_self, h0] at h
          exact Hfin.out _ h
        · go_wp2
          go_ret2
          have h := Hrest3.out
          rw [if_neg hcn] at h
          exact Hfin.out _ h
end Go.Proofs.Ytblmbchjafffbaa
