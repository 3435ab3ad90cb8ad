/-
  qid: Take, Type, Mode.
-/
import Derived.Test.YtbckbnmpeedodaaQid
namespace Go.Proofs.Ytbckbnmpeedodaa
open Go.RowKit

/-- a mode's type, a type's mode -/
def typ (m : Nat) : Nat := m / 16777216 / 32 * 32
def mod' (t : Nat) : Nat := t / 32 * 32 * 16777216
theorem mod_typ (m : Nat) : mod' (typ m) = m / 536870912 * 536870912 := by unfold mod' typ; omega

set_option maxHeartbeats 400000 in
theorem qid_type (m : Nat) (hm : m < 4294967296) (w : World) : Calls Try.prog 15 #[.int .u32 m] w fun e w' => e = .returned (.int .u8 (typ m : Nat)) ∧ w = w' := by
  have ha := and_224 (m / 16777216) (by omega)
  rw [Int.natCast_ediv] at ha
  have Ha := Lib.hid ha
  clear ha
  go_enter Try.func15, Try.ntmps15
  go_wp2
  go_ret
  exact ⟨congrArg (fun x => Ending.returned (Value.int .u8 x)) Ha.out, rfl⟩

set_option maxHeartbeats 400000 in
theorem qid_mode (t : Nat) (ht : t < 256) (w : World) : Calls Try.prog 16 #[.int .u8 t] w fun e w' => e = .returned (.int .u32 (mod' t : Nat)) ∧ w = w' := by
  have ha := and_224 t ht
  have hf : bits .and .u8 (t : Int) 224 % 4294967296 * 16777216 % 4294967296 = (mod' t : Nat) := by rw [ha]; unfold mod'; omega
  have Hf := Lib.hid hf
  clear ha hf
  go_enter Try.func16, Try.ntmps16
  go_wp2
  go_ret
  exact ⟨congrArg (fun x => Ending.returned (Value.int .u32 x)) Hf.out, rfl⟩

/-- what Take of a qid gives, by its three numbers -/
def qv1 (L : List UInt8) (err : Int) : Nat := takeVal L err 1
def qL1 (L : List UInt8) (err : Int) : List UInt8 := takeLeft L err 1
def qe1 (L : List UInt8) (err : Int) : Int := takeErr L err 1
def qL2 (L : List UInt8) (err : Int) : List UInt8 := takeLeft (qL1 L err) (qe1 L err) 4
def qe2 (L : List UInt8) (err : Int) : Int := takeErr (qL1 L err) (qe1 L err) 4
def qL3 (L : List UInt8) (err : Int) : List UInt8 := takeLeft (qL2 L err) (qe2 L err) 8
def qe3 (L : List UInt8) (err : Int) : Int := takeErr (qL2 L err) (qe2 L err) 8
def qTake (L : List UInt8) (err : Int) : Q :=
  if qe3 L err = 0 then ⟨takeVal L err 1, takeVal (qL1 L err) (qe1 L err) 4, takeVal (qL2 L err) (qe2 L err) 8⟩ else ⟨0, 0, 0⟩

theorem takeVal_lt (L : List UInt8) (err : Int) (n : Nat) : takeVal L err n < 256 ^ n := by
  unfold takeVal
  split
  · have := le_lt (L.take (n : Int).toNat)
    rw [show (L.take (n : Int).toNat).length = n from by simp; omega] at this
    exact this
  · exact Nat.pow_pos (by omega)

def RetQid (w : World) (p : Nat) (g : Option Nat) (L : List UInt8) (err : Int) : Ending → World → Prop := fun e w' =>
  e = .returned (qTake L err).val ∧ InAt w' p g (qL3 L err) (qe3 L err) ∧ Keeps (only p) w w'

theorem retQid_close {w w4 : World} {p : Nat} {g : Option Nat} {L : List UInt8} {err : Int} (hi4 : InAt w4 p g (qL3 L err) (qe3 L err)) (hk4 : Keeps (only p) w w4)
    (hp : p < w.heap.size) (hg : ∀ b, g = some b → b < w.heap.size) (q : Q) (hq : qTake L err = q) (u0 u1 u2 : Value) :
    RetQid w p g L err (.returned q.val) (((w4.setCell ⟨w.heap.size, 0, none⟩ u0).setCell ⟨w.heap.size, 1, none⟩ u1).setCell ⟨w.heap.size, 2, none⟩ u2) := by
  have hk : Keeps (only w.heap.size) w4 (((w4.setCell ⟨w.heap.size, 0, none⟩ u0).setCell ⟨w.heap.size, 1, none⟩ u1).setCell ⟨w.heap.size, 2, none⟩ u2) :=
    (((Keeps.refl (only w.heap.size) w4).setCell (p := ⟨w.heap.size, 0, none⟩) (fun _ => rfl) u0).setCell (p := ⟨w.heap.size, 1, none⟩) (fun _ => rfl) u1).setCell (p := ⟨w.heap.size, 2, none⟩) (fun _ => rfl) u2
  refine ⟨by rw [hq], hi4.keep hk (fun e => ?_) (fun b hb e => ?_), hk4.trans hk (fun b hb e => ?_)⟩
  · unfold only at e; omega
  · have := hg b hb; unfold only at e; omega
  · unfold only at e; omega

set_option maxHeartbeats 400000 in
theorem qid_take (p : Nat) (g : Option Nat) (L : List UInt8) (err : Int) (w : World) (h : InAt w p g L err) :
    Calls Try.prog 19 #[.pointer (some ⟨p, 0, none⟩)] w (RetQid w p g L err) := by
  have hlt := h.lt
  have l1 : takeVal L err 1 < 256 := by simpa using takeVal_lt L err 1
  have l2 : takeVal (qL1 L err) (qe1 L err) 4 < 4294967296 := by simpa using takeVal_lt (qL1 L err) (qe1 L err) 4
  have l3 : takeVal (qL2 L err) (qe2 L err) 8 < 18446744073709551616 := by simpa using takeVal_lt (qL2 L err) (qe2 L err) 8
  have hbox := Blk.new w 25 #[.int .u8 0, .int .u32 0, .int .u64 0]
  have h0 : InAt (w.alloc (.cells #[.int .u8 0, .int .u32 0, .int .u64 0] 25)) p g L err := h.keep (S := nowhere) ((Keeps.refl _ w).alloc _) (fun h => h) (fun _ _ h => h)
  have hk0 : Keeps (only p) w (w.alloc (.cells #[.int .u8 0, .int .u32 0, .int .u64 0] 25)) := (Keeps.refl _ w).alloc _
  have H := Lib.hid h0
  have Hbox := Lib.hid hbox
  have Hk0 := Lib.hid hk0
  have Hlt := Lib.hid hlt
  clear h hbox h0 hk0 hlt
  go_enter Try.func19, Try.ntmps19
  go_wp2_with fail
  refine (take_any p g L err 1 _ H.out).mono ?_
  rintro e w1 ⟨rfl, hi1, hk1⟩
  have hb1 := Hbox.out.keep hk1 (fun e => absurd Hlt.out.1 (by unfold only at e; omega))
  have Hi1 := Lib.hid hi1
  have Hk1 := Lib.hid hk1
  have Hb1 := Lib.hid hb1
  clear hi1 hk1 hb1
  go_wp2_with fail
  refine (take_any p g (qL1 L err) (qe1 L err) 4 _ Hi1.out).mono ?_
  rintro e w2 ⟨rfl, hi2, hk2⟩
  have hb2 := Hb1.out.keep hk2 (fun e => absurd Hlt.out.1 (by unfold only at e; omega))
  have Hi2 := Lib.hid hi2
  have Hk2 := Lib.hid hk2
  have Hb2 := Lib.hid hb2
  clear hi2 hk2 hb2
  go_wp2_with fail
  refine (take_any p g (qL2 L err) (qe2 L err) 8 _ Hi2.out).mono ?_
  rintro e w3 ⟨rfl, hi3, hk3⟩
  have hb3 := Hb2.out.keep hk3 (fun e => absurd Hlt.out.1 (by unfold only at e; omega))
  have Hi3 := Lib.hid hi3
  have Hk3 := Lib.hid hk3
  have Hb3 := Lib.hid hb3
  clear hi3 hk3 hb3
  generalize hv1 : takeVal L err 1 = v1 at *
  generalize hv2 : takeVal (qL1 L err) (qe1 L err) 4 = v2 at *
  generalize hv3 : takeVal (qL2 L err) (qe2 L err) 8 = v3 at *
  have Hv1 := Lib.hid hv1
  have Hv2 := Lib.hid hv2
  have Hv3 := Lib.hid hv3
  clear hv1 hv2 hv3
  have hbs := Hb3.out.lt
  have hps := Hi3.out.lt.1
  go_wp2_with fail
  have hi4 := Hi3.out.keep (S := nowhere) ((Keeps.refl _ w3).alloc (.cells #[.int .u8 (v1 : Int), .int .u32 (v2 : Int), .int .u64 (v3 : Int)] 25)) (fun h => h) (fun _ _ h => h)
  have hk4 : Keeps (only p) w (w3.alloc (.cells #[.int .u8 (v1 : Int), .int .u32 (v2 : Int), .int .u64 (v3 : Int)] 25)) :=
    (((Hk0.out.trans Hk1.out (fun _ _ h => h)).trans Hk2.out (fun _ _ h => h)).trans Hk3.out (fun _ _ h => h)).alloc _
  have hb4 := Hb3.out.alloc (.cells #[.int .u8 (v1 : Int), .int .u32 (v2 : Int), .int .u64 (v3 : Int)] 25)
  have hb5 := Blk.new w3 25 #[.int .u8 (v1 : Int), .int .u32 (v2 : Int), .int .u64 (v3 : Int)]
  have hsz : w3.heap.size < (w3.alloc (.cells #[.int .u8 (v1 : Int), .int .u32 (v2 : Int), .int .u64 (v3 : Int)] 25)).heap.size := by simp
  generalize w3.alloc (.cells #[.int .u8 (v1 : Int), .int .u32 (v2 : Int), .int .u64 (v3 : Int)] 25) = w4 at *
  refine (in_err p g _ _ w4 hi4).mono ?_
  rintro e w5 ⟨rfl, rfl⟩
  have hq : qe3 L err = takeErr (qL2 L err) (qe2 L err) 8 := rfl
  rw [← hq] at hi4 ⊢
  have hfin := retQid_close hi4 hk4 Hlt.out.1 Hlt.out.2
  have Hfin := Lib.hid hfin
  have c0 := hb4.cell 0
  have c1 := hb4.cell 1
  have c2 := hb4.cell 2
  have z0 := hb4.frozen 0
  have z1 := hb4.frozen 1
  have z2 := hb4.frozen 2
  have d0 := hb5.cell 0
  have d1 := hb5.cell 1
  have d2 := hb5.cell 2
  simp at c0 c1 c2 d0 d1 d2
  clear hi4 hk4 hb4 hb5 hfin hq
  by_cases he : qe3 L err = 0
  · have hn : (qe3 L err != 0) = false := by simpa using he
    have hq : qTake L err = ⟨v1, v2, v3⟩ := by rw [qTake, if_pos he, Hv1.out, Hv2.out, Hv3.out]
    have Hq := Lib.hid hq
    clear he hq
    generalize qe3 L err = e3 at *
    go_wp2_with fail
    exact bodyPost_ret (v := .agg #[.int .u8 (v1 : Int), .int .u32 (v2 : Int), .int .u64 (v3 : Int)]) (by simp [results, Try.results19, go_sem, c0, c1, c2]) rfl (Hfin.out ⟨v1, v2, v3⟩ Hq.out _ _ _)
  · have hn : (qe3 L err != 0) = true := by simpa using he
    have hq : qTake L err = ⟨0, 0, 0⟩ := by rw [qTake, if_neg he]
    have Hq := Lib.hid hq
    clear he hq
    generalize qe3 L err = e3 at *
    go_wp2_with fail
    exact bodyPost_ret (v := .agg #[.int .u8 0, .int .u32 0, .int .u64 0]) (by simp [results, Try.results19, go_sem, c0, c1, c2]) rfl (Hfin.out ⟨0, 0, 0⟩ Hq.out _ _ _)
end Go.Proofs.Ytbckbnmpeedodaa
