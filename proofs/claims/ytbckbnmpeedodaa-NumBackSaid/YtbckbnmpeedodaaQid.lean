/-
  qid: Put, Take, Type, Mode.
-/
import Derived.Test.YtbckbnmpeedodaaNumRawIn
namespace Go.Proofs.Ytbckbnmpeedodaa
open Go.RowKit

/-- bytes that Put writes -/
def pb (n v : Int) : List UInt8 := if 1 ≤ n ∧ n ≤ 8 then nb n.toNat v.toNat else []
theorem pb_in (n v : Nat) (h1 : 1 ≤ n) (h8 : n ≤ 8) : pb n v = nb n v := by rw [pb, if_pos (by omega)]; simp
theorem pb_len (n v : Int) : (pb n v).length ≤ 8 := by unfold pb; split <;> simp [nb_len]; omega

theorem RetOut.same {p : Nat} {g : Option Nat} {w : World} {L : List UInt8} (ho : OutAt w p g L) : RetOut p g w L (.returned (.tuple #[])) w :=
  ⟨rfl, g, ho, fun _ h => .inl h, Keeps.refl _ _⟩

theorem put_any (p : Nat) (g : Option Nat) (L : List UInt8) (n v : Int) (w : World) (ho : OutAt w p g L) (hv0 : 0 ≤ v) (hv : v < 18446744073709551616) (hb : L.length ≤ 1099511627776) :
    Calls Try.prog 25 #[.pointer (some ⟨p, 0, none⟩), .int .i64 n, .int .u64 v] w (RetOut p g w (L ++ pb n v)) := by
  by_cases hn : 1 ≤ n ∧ n ≤ 8
  · obtain ⟨m, rfl⟩ := Int.eq_ofNat_of_zero_le (show 0 ≤ n by omega)
    obtain ⟨x, rfl⟩ := Int.eq_ofNat_of_zero_le hv0
    rw [pb_in m x (by omega) (by omega)]
    exact out_put p g L m x w ho (by omega) (by omega) (by omega) hb
  · refine (out_put_no p n v w (by omega)).mono ?_
    rintro e w' ⟨rfl, rfl⟩
    rw [pb, if_neg hn, List.append_nil]
    exact RetOut.same ho

/-- a qid -/
structure Q where
  t : Nat
  v : Nat
  p : Nat
def Q.ok (q : Q) : Prop := q.t < 256 ∧ q.v < 4294967296 ∧ q.p < 18446744073709551616
def Q.val (q : Q) : Value := .agg #[.int .u8 q.t, .int .u32 q.v, .int .u64 q.p]
def Q.bytes (q : Q) : List UInt8 := nb 1 q.t ++ nb 4 q.v ++ nb 8 q.p
theorem Q.bytes_len (q : Q) : q.bytes.length = 13 := by simp [Q.bytes, nb_len]

set_option maxHeartbeats 400000 in
theorem qid_put (p : Nat) (g : Option Nat) (L : List UInt8) (q : Q) (hq : q.ok) (w : World) (ho : OutAt w p g L) (hb : L.length ≤ 1099511600000) :
    Calls Try.prog 13 #[.pointer (some ⟨p, 0, none⟩), .agg #[.int .u8 q.t, .int .u32 q.v, .int .u64 q.p]] w (RetOut p g w (L ++ q.bytes)) := by
  obtain ⟨qt, qv, qp⟩ := q
  obtain ⟨h1, h2, h3⟩ := hq
  dsimp only at h1 h2 h3 ⊢
  have Ho := Lib.hid ho
  clear ho
  have e1 : IntKind.u64.wrap (qt : Int) = qt := by rw [IntKind.wrap_u64]; omega
  have e2 : IntKind.u64.wrap (qv : Int) = qv := by rw [IntKind.wrap_u64]; omega
  go_enter Try.func13, Try.ntmps13
  have hplt := Ho.out.lt
  have hbox := Blk.new w 25 #[.int .u8 (qt : Int), .int .u32 (qv : Int), .int .u64 (qp : Int)]
  obtain ⟨w0, hw0⟩ : ∃ w0, w0 = w.alloc (.cells #[.int .u8 (qt : Int), .int .u32 (qv : Int), .int .u64 (qp : Int)] 25) := ⟨_, rfl⟩
  have ho0 : OutAt w0 p g L := hw0 ▸ Ho.out.keep (S := nowhere) ((Keeps.refl _ w).alloc _) (fun h => h) (fun _ _ h => h)
  have hk0 : Keeps (only2 p g) w w0 := hw0 ▸ (Keeps.refl _ w).alloc _
  rw [← hw0] at hbox
  go_wp2_with fail
  rw [← hw0]
  have hz0 : w.heap.size < w0.heap.size := hbox.lt
  clear hw0
  have Hbox := Lib.hid hbox
  have Hk0 := Lib.hid hk0
  have Hlt := Lib.hid hplt
  clear hbox hk0 hplt
  refine (put_any p g L 1 qt w0 ho0 (by omega) (by omega) (by omega)).mono ?_
  rintro e w1 ⟨rfl, g1, ho1, hg1, hk1⟩
  have hn0 : ¬ only2 p g w.heap.size := not_only2 Hlt.out.1 Hlt.out.2
  have hbox1 := Hbox.out.keep hk1 hn0
  have hs1 := hk1.size
  have hc1 := hbox1.cell 1
  simp at hc1
  have Hbox1 := Lib.hid hbox1
  have Hg1 := Lib.hid hg1
  have Hk1 := Lib.hid hk1
  have Hn0 := Lib.hid hn0
  clear hbox1 hg1 hk1 hn0 ho0
  go_wp2_with fail
  refine (put_any p g1 _ 4 qv w1 ho1 (by omega) (by omega) (by have := pb_len 1 (qt : Int); simp; omega)).mono ?_
  rintro e w2 ⟨rfl, g2, ho2, hg2, hk2⟩
  have hn1 : ¬ only2 p g1 w.heap.size := not_only2_from Hn0.out Hg1.out hz0
  have hbox2 := Hbox1.out.keep hk2 hn1
  have hs2 := hk2.size
  have hc2 := hbox2.cell 2
  simp at hc2
  have Hg2 := Lib.hid hg2
  have Hk2 := Lib.hid hk2
  clear hbox2 hg2 hk2 hn1 ho1 hc1
  go_wp2_with fail
  refine (put_any p g2 _ 8 qp w2 ho2 (by omega) (by omega) (by have := pb_len 1 (qt : Int); have := pb_len 4 (qv : Int); simp; omega)).mono ?_
  rintro e w3 ⟨rfl, g3, ho3, hg3, hk3⟩
  have Hg3 := Lib.hid hg3
  have Hk3 := Lib.hid hk3
  clear hg3 hk3 hc2 ho2
  go_wp2_with fail
  refine bodyPost_end (results_none rfl _ _ _) rfl ?_
  have f1 : From g w0.heap.size g1 := Hg1.out
  have f2 : From g1 w1.heap.size g2 := Hg2.out
  have f3 : From g2 w2.heap.size g3 := Hg3.out
  have e4 : pb 1 (qt : Int) = nb 1 qt := pb_in 1 qt (by omega) (by omega)
  have e5 : pb 4 (qv : Int) = nb 4 qv := pb_in 4 qv (by omega) (by omega)
  have e6 : pb 8 (qp : Int) = nb 8 qp := pb_in 8 qp (by omega) (by omega)
  rw [e4, e5, e6] at ho3
  refine ⟨rfl, g3, by simpa [Q.bytes] using ho3, (f1.trans (f2.trans f3 (by omega)) (by omega)).mono (by omega), ?_⟩
  exact ((Hk0.out.trans Hk1.out (fun _ _ h => h)).trans2 f1 (by omega) Hk2.out).trans2 (f1.trans f2 (by omega)) (by omega) Hk3.out
end Go.Proofs.Ytbckbnmpeedodaa
