/-
  inode: Encode.
-/
import Derived.Test.YtblmbchjafffbaaI2
namespace Go.Proofs.Ytblmbchjafffbaa
open Go.RowKit

def enc4 (xs : List Nat) : List UInt8 := (xs.map (nb 4)).flatten
theorem enc4_take {xs : List Nat} {k : Nat} (hk : k < xs.length) : enc4 (xs.take (k + 1)) = enc4 (xs.take k) ++ nb 4 xs[k] := by
  rw [List.take_add_one, List.getElem?_eq_getElem hk]; simp only [enc4, Option.toList_some, List.map_append, List.map_cons, List.map_nil, List.flatten_append, List.flatten_cons, List.flatten_nil, List.append_nil]
theorem enc4_len (xs : List Nat) : (enc4 xs).length = 4 * xs.length := by
  induction xs with
  | nil => rfl
  | cons x xs ih =>
    have : enc4 (x :: xs) = nb 4 x ++ enc4 xs := rfl
    rw [this, List.length_append, nb_len, ih, List.length_cons]
    omega
def encI (i : Ino) : List UInt8 := enc4 [i.m, i.v, i.s] ++ nb 2 i.l ++ nb 2 0 ++ enc4 i.blocks
theorem encI_len (i : Ino) : (encI i).length = 56 := by simp [encI, enc4_len, nb_len, Ino.blocks]
def encB (i : Ino) : List UInt8 := encI i ++ zeros 8
theorem encB_len (i : Ino) : (encB i).length = 64 := by simp [encB, encI_len, zeros]
def encE (i : Ino) : List UInt8 := if chkI i = 0 then encB i else []

def RetEnc (w : World) (i : Ino) : Ending → World → Prop := fun e w' =>
  ∃ v g, e = .returned (.tuple #[v, .int .i64 (chkI i)]) ∧ Rd w' v g ((encE i).map bv) ∧ Above w.heap.size g ∧ Keeps nowhere w w'

/-- what a loop of puts has done so far -/
structure Puts (w0 wr : World) (p : Nat) (g0 : Option Nat) (L : List UInt8) : Prop where
  out : ∃ g, OutAt wr p g L ∧ From g0 w0.heap.size g
  keeps : Keeps (only2 p g0) w0 wr
theorem Puts.start {w : World} {p : Nat} {g : Option Nat} {L : List UInt8} (h : OutAt w p g L) : Puts w w p g L := ⟨⟨g, h, From.refl _ _⟩, Keeps.refl _ _⟩
theorem Puts.step {w0 w w' : World} {p : Nat} {g0 g : Option Nat} {L L' : List UInt8} {e : Ending} (h : Puts w0 w p g0 L) (ho : From g0 w0.heap.size g) (hr : RetOut p g w L' e w') : e = .returned (.tuple #[]) ∧ Puts w0 w' p g0 L' := by
  obtain ⟨rfl, g', h1, h2, h3⟩ := hr
  exact ⟨rfl, ⟨⟨g', h1, ho.trans h2 h.keeps.size⟩, h.keeps.trans2 ho (Nat.le_refl _) h3⟩⟩
theorem Puts.up {w w0 wr : World} {p : Nat} {g0 : Option Nat} {L : List UInt8} (h : Puts w0 wr p g0 L) (hk : Keeps nowhere w w0) (hp : w.heap.size ≤ p) (hg : Above w.heap.size g0) : Keeps nowhere w wr := hk.fresh2 h.keeps hp hg

theorem ino_cells {w : World} {b : Nat} {i : Ino} (h : Blk w b 48 i.cells) : w.cell? ⟨b, 0, none⟩ = some (.int .u32 (i.m : Int)) ∧ w.cell? ⟨b, 1, none⟩ = some (.int .u32 (i.v : Int)) ∧ w.cell? ⟨b, 2, none⟩ = some (.int .u32 (i.s : Int)) ∧ w.cell? ⟨b, 3, none⟩ = some (.int .u16 (i.l : Int)) ∧ w.cell? ⟨b, 4, none⟩ = some (.int .u32 (i.d0 : Int)) ∧ w.cell? ⟨b, 5, none⟩ = some (.int .u32 (i.d1 : Int)) ∧ w.cell? ⟨b, 6, none⟩ = some (.int .u32 (i.d2 : Int)) ∧ w.cell? ⟨b, 7, none⟩ = some (.int .u32 (i.d3 : Int)) ∧ w.cell? ⟨b, 8, none⟩ = some (.int .u32 (i.d4 : Int)) ∧ w.cell? ⟨b, 9, none⟩ = some (.int .u32 (i.d5 : Int)) ∧ w.cell? ⟨b, 10, none⟩ = some (.int .u32 (i.d6 : Int)) ∧ w.cell? ⟨b, 11, none⟩ = some (.int .u32 (i.d7 : Int)) ∧ w.cell? ⟨b, 12, none⟩ = some (.int .u32 (i.a : Int)) ∧ w.cell? ⟨b, 13, none⟩ = some (.int .u32 (i.b : Int)) :=
  ⟨h.cell 0, h.cell 1, h.cell 2, h.cell 3, h.cell 4, h.cell 5, h.cell 6, h.cell 7, h.cell 8, h.cell 9, h.cell 10, h.cell 11, h.cell 12, h.cell 13⟩

set_option maxHeartbeats 3200000 in
set_option maxRecDepth 20000 in
theorem iencode (i : Ino) (hi : i.ok) (w : World) : Calls Try.prog 25 #[i.val] w (RetEnc w i) := by
  obtain ⟨w1, hw1⟩ : ∃ w1, w1 = w.alloc (.cells i.cells 48) := ⟨_, rfl⟩
  have hk0 : Keeps nowhere w w1 := by rw [hw1]; exact (Keeps.refl _ _).alloc _
  have hb1 : Blk w1 w.heap.size 48 i.cells := by rw [hw1]; exact Blk.new _ _ _
  have hsz1 : w1.heap.size = w.heap.size + 1 := by rw [hw1]; simp
  have hib := icheck i w1
  obtain ⟨C, hC⟩ : ∃ C, C = chkI i := ⟨_, rfl⟩
  rw [← hC] at hib
  unfold Ino.val at hib ⊢
  unfold Ino.cells at hw1 hib ⊢
  have Hk0 := Lib.hid hk0
  have Hw1 := Lib.hid hw1
  have Hib := Lib.hid hib
  have HC := Lib.hid hC
  have Hb1 := Lib.hid hb1
  have Hsz1 := Lib.hid hsz1
  clear hk0 hw1 hib hC hb1 hsz1
  go_enter Try.func25, Try.ntmps25
  go_wp2_with fail
  rw [← Hw1.out]
  refine Hib.out.mono ?_
  rintro e w2 ⟨rfl, hk2⟩
  have hkw2 := Hk0.out.more hk2
  by_cases hc : C = 0
  · have hc' : (C != 0) = false := by simp [hc]
    have hb2 := Hb1.out.keep hk2 (fun h => h)
    have hb3 := hb2.alloc (.cells #[.slice none 0 0] 77)
    obtain ⟨c0, c1, c2, -⟩ := ino_cells hb3
    have ho3 := OutAt.new w2
    have hsz2 := hk2.size
    obtain ⟨xs, hxs⟩ : ∃ xs, xs = [i.m, i.v, i.s] := ⟨_, rfl⟩
    obtain ⟨w3, hw3⟩ : ∃ w3, w3 = w2.alloc (.cells #[.slice none 0 0] 77) := ⟨_, rfl⟩
    have hk3 : Keeps nowhere w2 w3 := by rw [hw3]; exact (Keeps.refl _ _).alloc _
    rw [← hw3] at ho3 hb3
    obtain ⟨w4, hw4⟩ : ∃ w4, w4 = w3.alloc (.cells #[.int .u32 (i.m : Int), .int .u32 (i.v : Int), .int .u32 (i.s : Int)] 36) := ⟨_, rfl⟩
    have hk4 : Keeps nowhere w3 w4 := by rw [hw4]; exact (Keeps.refl _ _).alloc _
    have hr4 : Rd w4 (.slice (some ⟨w3.heap.size, 0, none⟩) 3 3) (some w3.heap.size) (xs.map wv) := by
      rw [hw4, hxs]
      exact Rd.full (heap_alloc_new w3 (.cells #[.int .u32 (i.m : Int), .int .u32 (i.v : Int), .int .u32 (i.s : Int)] 36)) (by simp [maxLen])
    have ho4 := ho3.keep hk4 (fun h => h) (fun _ _ h => h)
    have hb4 := hb3.keep hk4 (fun h => h)
    have hsz3 : w3.heap.size = w2.heap.size + 1 := by rw [hw3]; simp
    have hsz4 : w4.heap.size = w3.heap.size + 1 := by rw [hw4]; simp
    have hkw4 := (hkw2.more hk3).more hk4
    have hxl : xs.length = 3 := by rw [hxs]; rfl
    have hxok : ∀ x ∈ xs, x < 4294967296 := by
      rw [hxs]
      intro x hx
      obtain ⟨h1, h2, h3, -⟩ := hi
      simp only [List.mem_cons, List.not_mem_nil, or_false] at hx
      rcases hx with rfl | rfl | rfl <;> assumption
    have hw4' := hw4
    rw [hw3] at hw4'
    have hcell : ∀ k (hk : k < xs.length), w4.cell? ⟨w2.heap.size + 1, k, none⟩ = some (.int .u32 (xs[k] : Nat)) := fun k hk => by
      rw [← hsz3]
      obtain ⟨b, o, cc, he, -, -, -, -, hc⟩ := hr4.plain (by rw [List.length_map]; omega)
      injection he with e1 e2 e3
      injection e1 with e1
      injection e1 with e1 e4
      subst e1 e4
      have := hc k (wv xs[k]) (by simp [hk])
      rw [Nat.zero_add] at this
      exact this
    have Hk2 := Lib.hid hk2
    have Hkw2 := Lib.hid hkw2
    have Hb2 := Lib.hid hb2
    have Hb3 := Lib.hid hb3
    have Ho3 := Lib.hid ho3
    have Hsz2 := Lib.hid hsz2
    have Hw3 := Lib.hid hw3
    have Hk3 := Lib.hid hk3
    have Hw4 := Lib.hid hw4
    have Hw4' := Lib.hid hw4'
    have Hk4 := Lib.hid hk4
    have Hr4 := Lib.hid hr4
    have Ho4 := Lib.hid ho4
    have Hb4 := Lib.hid hb4
    have Hsz3 := Lib.hid hsz3
    have Hsz4 := Lib.hid hsz4
    have Hkw4 := Lib.hid hkw4
    have Hxs := Lib.hid hxs
    have Hxl := Lib.hid hxl
    have Hxok := Lib.hid hxok
    have Hcell := Lib.hid hcell
    have Hc := Lib.hid hc
    clear hk2 hkw2 hb2 hb3 ho3 hsz2 hw3 hk3 hw4 hw4' hk4 hr4 ho4 hb4 hsz3 hsz4 hkw4 hxs hxl hxok hcell hc
    go_wp2_with fail
    rw [← Hw4'.out]
    clear c0 c1 c2
    go_loopw [23] (fun iv wr => ∃ k : Nat, k ≤ 3 ∧ iv = .int .i64 k ∧ Puts w4 wr w2.heap.size none (enc4 (xs.take k))) (fun iv _ => 3 - (intOf iv).toNat)
    case atStart => exact ⟨0, Nat.zero_le _, rfl, Puts.start Ho4.out⟩
    case round =>
      obtain ⟨k, hk, rfl, hput⟩ := hrel
      obtain ⟨⟨g, ho, hfg⟩, hkp⟩ := id hput
      by_cases hlt : k < 3
      · have hkx : k < xs.length := by rw [Hxl.out]; exact hlt
        have hcr := (hkp.cell (p := ⟨w2.heap.size + 1, k, none⟩) (by have := Hsz3.out; have := Hsz4.out; show w2.heap.size + 1 < w4.heap.size; omega) (fun e => e.elim (fun e => by simp at e) (fun e => by cases e))).trans (Hcell.out k hkx)
        have hsucc := enc4_take hkx
        have hx32 := Hxok.out xs[k] (List.getElem_mem hkx)
        obtain ⟨x, hx⟩ : ∃ x, x = xs[k] := ⟨_, rfl⟩
        rw [← hx] at hcr hsucc hx32
        have hk0 : (0 : Int) ≤ k ∧ (k : Int) < 3 := by omega
        have hlen : (enc4 (xs.take k)).length ≤ 1099511627776 := by rw [enc4_len, List.length_take]; omega
        have Hput := Lib.hid hput
        have Ho := Lib.hid ho
        have Hfg := Lib.hid hfg
        have Hkp := Lib.hid hkp
        have Hsucc := Lib.hid hsucc
        have Hx := Lib.hid hx
        have Hlen := Lib.hid hlen
        clear hput ho hfg hkp hsucc hx hlen
        go_wp2_with fail
        refine (out_put _ g _ 4 x _ Ho.out (by omega) (by omega) (by omega) Hlen.out).mono ?_
        rintro e w5 hret
        obtain ⟨rfl, hput5⟩ := Hput.out.step Hfg.out hret
        rw [← Hsucc.out] at hput5
        clear hret
        have Hput5 := Lib.hid hput5
        clear hput5
        go_wp2_with fail
        go_roundw
        case rel => exact ⟨k + 1, by omega, by go_num, Hput5.out⟩
        case measure => simp [intOf]; omega
      · obtain rfl : k = 3 := by omega
        rw [show xs.take 3 = xs from by rw [← Hxl.out, List.take_length]] at hput ho
        have hbr := Hb4.out.keep hkp (fun e => e.elim (fun e => by have := Hsz1.out; have := Hsz2.out; omega) (fun e => by cases e))
        obtain ⟨-, -, -, c3, -⟩ := ino_cells hbr
        have hl16 : i.l < 65536 := hi.2.2.2.1
        have hlen : (enc4 xs).length = 12 := by rw [enc4_len, Hxl.out]
        have Hput := Lib.hid hput
        have Ho := Lib.hid ho
        have Hfg := Lib.hid hfg
        have Hkp := Lib.hid hkp
        have Hbr := Lib.hid hbr
        have Hlen := Lib.hid hlen
        clear hput ho hfg hkp hbr hlen
        go_wp2_with fail
        refine (out_put _ g _ 2 i.l _ Ho.out (by omega) (by omega) (by omega) (by rw [Hlen.out]; omega)).mono ?_
        rintro e w5 hret
        obtain ⟨rfl, hput5⟩ := Hput.out.step Hfg.out hret
        clear hret
        obtain ⟨⟨g5, ho5, hfg5⟩, hkp5⟩ := id hput5
        have Hput5 := Lib.hid hput5
        have Ho5 := Lib.hid ho5
        have Hfg5 := Lib.hid hfg5
        have Hkp5 := Lib.hid hkp5
        clear hput5 ho5 hfg5 hkp5
        go_wp2_with fail
        refine (out_put _ g5 _ 2 0 _ Ho5.out (by omega) (by omega) (by omega) (by rw [List.length_append, Hlen.out, nb_len]; omega)).mono ?_
        rintro e w6 hret
        obtain ⟨rfl, hput6⟩ := Hput5.out.step Hfg5.out hret
        clear hret
        obtain ⟨⟨g6, ho6, hfg6⟩, hkp6⟩ := id hput6
        have hb6 := Hb4.out.keep hkp6 (fun e => e.elim (fun e => by have := Hsz1.out; have := Hsz2.out; omega) (fun e => by cases e))
        obtain ⟨c0, c1, c2, c3', c4, c5, c6, c7, c8, c9, c10, c11, c12, c13⟩ := ino_cells hb6
        clear c3
        have hib6 := iblocks i w6
        unfold Ino.val Ino.cells at hib6
        have Hput6 := Lib.hid hput6
        have Ho6 := Lib.hid ho6
        have Hfg6 := Lib.hid hfg6
        have Hkp6 := Lib.hid hkp6
        have Hb6 := Lib.hid hb6
        have Hib6 := Lib.hid hib6
        clear hput6 ho6 hfg6 hkp6 hb6 hib6
        go_wp2_with fail
        refine Hib6.out.mono ?_
        rintro e w8 ⟨v8, rfl, hown8, hab8, hk8⟩
        obtain ⟨ys, hys⟩ : ∃ ys, ys = i.blocks := ⟨_, rfl⟩
        rw [← hys] at hown8
        have hyl : ys.length = 10 := by rw [hys]; rfl
        have hyok : ∀ y ∈ ys, y < 4294967296 := by
          rw [hys]
          intro y hy
          obtain ⟨-, -, -, -, h0, h1, h2, h3, h4, h5, h6, h7, h8, h9⟩ := hi
          simp only [Ino.blocks, List.mem_cons, List.not_mem_nil, or_false] at hy
          rcases hy with rfl | rfl | rfl | rfl | rfl | rfl | rfl | rfl | rfl | rfl <;> assumption
        obtain ⟨b8, o8, cc8, rfl, hob, hblt8, -, -, hc8⟩ := hown8.rd.plain (by rw [List.length_map]; omega)
        rw [List.length_map, hyl] at hown8 hob hab8 ⊢
        have hb8 : w6.heap.size ≤ b8 := hab8 b8 hob
        have hcell8 : ∀ k (hk : k < ys.length), w8.cell? ⟨b8, o8 + k, none⟩ = some (.int .u32 (ys[k] : Nat)) := fun k hk => hc8 k (wv ys[k]) (by simp [hk])
        have ho8 := Ho6.out.keep hk8 (fun h => h) (fun _ _ h => h)
        have hkw6 := Hput6.out.up (w := w) Hkw4.out (by have := Hsz2.out; have := Hsz1.out; omega) (Above.none _)
        have hkw8 := hkw6.more hk8
        have holt6 := Ho6.out.lt
        have hg6 : Above w.heap.size g6 := fun b hb => (Hfg6.out b hb).elim (fun e => by cases e) (fun h => by have := Hkw4.out.size; omega)
        have hw6sz := hkw6.size
        obtain ⟨L7, hL7⟩ : ∃ L7, L7 = enc4 xs ++ nb 2 i.l ++ nb 2 0 := ⟨_, rfl⟩
        have hL7l : L7.length = 16 := by rw [hL7, List.length_append, List.length_append, Hlen.out, nb_len, nb_len]
        rw [← hL7] at ho8
        clear hc8 c0 c1 c2 c3' c4 c5 c6 c7 c8 c9 c10 c11 c12 c13
        have Hown8 := Lib.hid hown8
        have Hab8 := Lib.hid hab8
        have Hob := Lib.hid hob
        have Hk8 := Lib.hid hk8
        have Hys := Lib.hid hys
        have Hyl := Lib.hid hyl
        have Hyok := Lib.hid hyok
        have Hcell8 := Lib.hid hcell8
        have Ho8 := Lib.hid ho8
        have Hkw6 := Lib.hid hkw6
        have Hkw8 := Lib.hid hkw8
        have HL7 := Lib.hid hL7
        have HL7l := Lib.hid hL7l
        have Holt6 := Lib.hid holt6
        have Hg6 := Lib.hid hg6
        have Hw6sz := Lib.hid hw6sz
        clear hown8 hab8 hob hk8 hys hyl hyok hcell8 ho8 hkw6 hkw8 hL7 hL7l holt6 hg6 hw6sz
        go_wp2_with fail
        go_loopw [39] (fun iv wr => ∃ k : Nat, k ≤ 10 ∧ iv = .int .i64 k ∧ Puts w8 wr w2.heap.size g6 (L7 ++ enc4 (ys.take k))) (fun iv _ => 10 - (intOf iv).toNat)
        case atStart => exact ⟨0, Nat.zero_le _, rfl, by simpa [enc4] using Puts.start Ho8.out⟩
        case round =>
          obtain ⟨k, hk, rfl, hput⟩ := hrel
          obtain ⟨⟨g, ho, hfg⟩, hkp⟩ := id hput
          by_cases hlt : k < 10
          · have hkx : k < ys.length := by rw [Hyl.out]; exact hlt
            have hcr := (hkp.cell (p := ⟨b8, o8 + k, none⟩) hblt8 (fun e => e.elim (fun e => by have h := Holt6.out.1; simp only at e; omega) (fun e => by have h := Holt6.out.2 b8 e.symm; omega))).trans (Hcell8.out k hkx)
            have hsucc := enc4_take hkx
            have hx32 := Hyok.out ys[k] (List.getElem_mem hkx)
            obtain ⟨x, hx⟩ : ∃ x, x = ys[k] := ⟨_, rfl⟩
            rw [← hx] at hcr hsucc hx32
            have hk0 : (0 : Int) ≤ k ∧ (k : Int) < 10 := by omega
            have hlen : (L7 ++ enc4 (ys.take k)).length ≤ 1099511627776 := by rw [List.length_append, enc4_len, List.length_take, HL7l.out]; omega
            have Hput := Lib.hid hput
            have Ho := Lib.hid ho
            have Hfg := Lib.hid hfg
            have Hkp := Lib.hid hkp
            have Hsucc := Lib.hid hsucc
            have Hx := Lib.hid hx
            have Hlen := Lib.hid hlen
            clear hput ho hfg hkp hsucc hx hlen
            go_wp2_with fail
            refine (out_put _ g _ 4 x _ Ho.out (by omega) (by omega) (by omega) Hlen.out).mono ?_
            rintro e w9 hret
            obtain ⟨rfl, hput9⟩ := Hput.out.step Hfg.out hret
            rw [List.append_assoc, ← Hsucc.out] at hput9
            clear hret
            have Hput9 := Lib.hid hput9
            clear hput9
            go_wp2_with fail
            go_roundw
            case rel => exact ⟨k + 1, by omega, by go_num, Hput9.out⟩
            case measure => simp [intOf]; omega
          · obtain rfl : k = 10 := by omega
            have hE : L7 ++ enc4 (ys.take 10) = encI i := by
              rw [show ys.take 10 = ys from by rw [← Hyl.out, List.take_length], Hys.out, HL7.out, Hxs.out]
              rfl
            rw [hE] at hput ho
            have hkw9 := hput.up Hkw8.out (by have := Hsz2.out; have := Hsz1.out; omega) Hg6.out
            have hEl := encI_len i
            have Hput := Lib.hid hput
            have Ho := Lib.hid ho
            have Hfg := Lib.hid hfg
            have Hkp := Lib.hid hkp
            have HE := Lib.hid hE
            have Hkw9 := Lib.hid hkw9
            have HEl := Lib.hid hEl
            clear hput ho hfg hkp hE hkw9 hEl
            go_wp2_with fail
            refine (out_bytes _ g _ _ Ho.out (by rw [HEl.out]; omega)).mono ?_
            rintro e w10 ⟨v10, g10, rfl, hr10, hf10, hk10⟩
            have ho10 := Ho.out.keep hk10 (fun h => h) (fun _ _ h => h)
            obtain ⟨A10, c10, rfl, -⟩ := hr10.form
            rw [List.length_map, HEl.out] at hr10 ⊢
            have Hr10 := Lib.hid hr10
            have Hf10 := Lib.hid hf10
            have Hk10 := Lib.hid hk10
            have Ho10 := Lib.hid ho10
            clear hr10 hf10 hk10 ho10
            go_wp2_with fail
            refine (out_bytes _ g _ _ Ho10.out (by rw [HEl.out]; omega)).mono ?_
            rintro e w11 ⟨v11, g11, rfl, hr11, hf11, hk11⟩
            obtain ⟨A11, c11, rfl, -⟩ := hr11.form
            rw [List.length_map, HEl.out] at hr11 ⊢
            have hr10b := Hr10.out.keep hk11 (fun _ _ h => h)
            have Hr11 := Lib.hid hr11
            have Hf11 := Lib.hid hf11
            have Hk11 := Lib.hid hk11
            have Hr10b := Lib.hid hr10b
            clear hr11 hf11 hk11 hr10b
            go_wp2_with (at_make; refine wpList_make_bytes _ rfl _ _ rfl 8 8 rfl rfl rfl (by omega) ?_)
            intro w12 hown12 hk12
            have hr10c := Hr10b.out.keep hk12 (fun _ _ h => h)
            have hka := (Keeps.refl nowhere w12).alloc (.cells #[.slice A10 56 c10, .slice (some ⟨w11.heap.size, 0, none⟩) 8 8] 24)
            have hp13 := Parts.two (hr10c.keep hka (fun _ _ h => h)) (hown12.rd.keep hka (fun _ _ h => h))
            have hr13 := Rd.full (heap_alloc_new w12 (.cells #[.slice A10 56 c10, .slice (some ⟨w11.heap.size, 0, none⟩) 8 8] 24)) (by simp [maxLen])
            have hkw13 := (((Hkw9.out.more Hk10.out).more Hk11.out).more hk12).more hka
            have hEE : encE i = encB i := by rw [encE, if_pos (by rw [← HC.out]; exact Hc.out)]
            have hC0 : chkI i = 0 := by rw [← HC.out]; exact Hc.out
            have Hown12 := Lib.hid hown12
            have Hk12 := Lib.hid hk12
            have Hr10c := Lib.hid hr10c
            have Hka := Lib.hid hka
            have Hp13 := Lib.hid hp13
            have Hr13 := Lib.hid hr13
            have Hkw13 := Lib.hid hkw13
            have HEE := Lib.hid hEE
            have HC0 := Lib.hid hC0
            clear hown12 hk12 hr10c hka hp13 hr13 hkw13 hEE hC0
            go_wp2_with fail
            refine (concat_any _ _ _ [encI i, zeros 8] _ _ Hr13.out Hp13.out (by simp) (by simp [tot, HEl.out, zeros])).mono ?_
            rintro e w14 ⟨v14, rfl, hown14, hab14, hk14⟩
            have hfl : [encI i, zeros 8].flatten = encB i := by simp [encB]
            rw [hfl] at hown14
            have hszw := Hkw13.out.size
            have Hown14 := Lib.hid hown14
            have Hab14 := Lib.hid hab14
            have Hk14 := Lib.hid hk14
            have Hszw := Lib.hid hszw
            clear hown14 hab14 hk14 hszw
            go_wp2_with fail
            go_ret2
            exact ⟨v14, _, by rw [HC0.out]; rfl, by rw [HEE.out]; exact Hown14.out.rd, fun b hb => Nat.le_trans Hszw.out (Hab14.out b hb), Hkw13.out.more Hk14.out⟩
  · have hc' : (C != 0) = true := by simp [hc]
    have he : encE i = [] := by rw [encE, if_neg (by rw [← HC.out]; exact hc)]
    have Hk2 := Lib.hid hk2
    have Hkw2 := Lib.hid hkw2
    have He := Lib.hid he
    have Hc := Lib.hid hc
    clear hk2 hkw2 he hc
    go_wp2_with fail
    go_ret2
    exact ⟨_, none, by rw [HC.out]; rfl, by rw [He.out]; exact Rd.nil _, Above.none _, Hkw2.out⟩
end Go.Proofs.Ytblmbchjafffbaa
